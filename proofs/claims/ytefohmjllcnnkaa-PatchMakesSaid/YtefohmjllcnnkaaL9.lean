/- PatchMakes: the walk. -/
import Derived.Test.YtefohmjllcnnkaaL8
import Derived.Test.YtefohmjllcnnkaaM8
set_option linter.unusedVariables false
set_option linter.unusedSimpArgs false
set_option maxRecDepth 100000
namespace Go.Proofs.Ytefohmjllcnnkaa.H
open Go.RowKit
theorem idle_not (w : World) (L : List HP) (v : Value) (bs : List UInt8) (a0 a1 : Int) (s : ByteArray) (hO : Own w L) (hr : ∀ w', Own w' L → RdB w' v bs) (hi : idleB bs ⟨a0, a1, s⟩ = false) :
    Calls Try.prog 21 #[v, .agg #[.int .i64 a0, .int .i64 a1, .string s]] w (Ret w (.bool false) L) := by
  have h := idle_c w L v bs a0 a1 s hO hr
  rw [hi] at h
  exact h
theorem u8_bounds {n : Int} (h : (Lit.int .u8 n).wf = true) : 0 ≤ n ∧ n < 256 := by
  simp only [Lit.wf, Bool.and_eq_true, decide_eq_true_eq] at h
  have h1 : IntKind.u8.min = 0 := rfl
  have h2 : IntKind.u8.max = 255 := rfl
  omega
/-- What the walk needs to know of the patches. -/
structure Made (blk : Int) (a b : List UInt8) (ps : List Pat) : Prop where
  right : ∀ p ∈ ps, rightB p = true
  makes : appAll a ps = b
  idle : ∀ p ∈ ps, idleB a p = false
  blk : ∀ p ∈ ps, p.blk = blk
  gap : ∀ i : Nat, ∀ h : i + 1 < ps.length, ps[i].off + ps[i].dat.size < ps[i + 1].off
  none : ps.length = 0 ↔ a = b
  len : ps.length ≤ 32
theorem made {blk : Int} {a b : List UInt8} (h : 0 ≤ blk ∧ blk < 96) (ha : a.length = 32) (hb : b.length = 32) : Made blk a b (dP blk a b 32) :=
  ⟨diff_right h.1 h.2, diff_makes h.1 h.2 ha hb, diff_idle h.1 h.2 ha, diff_blk h.1 h.2, diff_gap h.1 h.2, diff_none h.1 h.2 ha hb, dP_len blk a b 32⟩
set_option maxHeartbeats 1600000 in
theorem makes_c (w : World) (A B : Option Addr) (n c m c' : Nat) (i : Int) (l l' : List UInt8) (hi0 : 0 ≤ i) (hi1 : i < 256) (hl : n = l.length) (hr : Rd w 1 (.slice A n c) n (bcs l)) (hm : m = l'.length) (hr' : Rd w 1 (.slice B m c') m (bcs l')) :
    Calls Try.prog 10 #[.int .u8 i, .slice A n c, .slice B m c'] w (fun e w' => e = .returned (.bool true) ∧ Below w.heap.size w w') := by
  subst hl hm
  have HRD := Lib.hid hr
  have HRD' := Lib.hid hr'
  have hmx := hr.max
  have hmx' := hr'.max
  have hO : Own w [snap w] := own_snap
  clear hr hr'
  have f1 : IntKind.i64.wrap i = i := by rw [IntKind.wrap_i64] <;> omega
  obtain ⟨blk, hblk⟩ : ∃ blk, i.tmod 96 = blk := ⟨_, rfl⟩
  have hb0 : 0 ≤ blk ∧ blk < 96 := by rw [← hblk, Int.tmod_eq_emod_of_nonneg hi0]; omega
  have HB0 := Lib.hid hb0
  go_enter Try.func10, Try.ntmps10
  go_upto_region 3 with (first | (go_at_call 28; (with_reducible refine (full_c _ _ (.slice A l.length c) l hO ?_).mono ?_); (exact fun w' h => rd_snap HRD.out h (k := 0) rfl); clear hO; rintro e w1 ⟨g1, xs, hxs, rfl, hO, hS1⟩; have HX := Lib.hid hxs; clear hxs) | (go_at_call 28; (with_reducible refine (full_c _ _ (.slice B l'.length c') l' hO ?_).mono ?_); (exact fun w' h => rd_snap HRD'.out h (k := 1) rfl); clear hO; rintro e w2 ⟨g2, ys, hys, rfl, hO, hS2⟩; have HY := Lib.hid hys; clear hys) | (go_at_call 30; refine (diff_ok _ _ _ _ blk xs ys hO (fun w' h => rdB_block HX.out.symm (own_get 1 h rfl) (by simp) (by simp)) (fun w' h => rdB_block HY.out.symm (own_get 0 h rfl) (by simp) (by simp)) HB0.out.1 HB0.out.2 HX.out HY.out).mono ?_; clear hO; rintro e w3 ⟨v1, rfl, hO, hS3⟩))
  obtain ⟨ps, hps⟩ : ∃ ps, ps = dP blk xs ys 32 := ⟨_, rfl⟩
  have hM := made HB0.out HX.out HY.out
  rw [← hps] at hM hO
  have HM := Lib.hid hM
  obtain ⟨V, cv, rfl⟩ := (owns_rd hO).slice
  have hmv := (owns_rd hO).max
  clear hps hM
  go_wp2_with (go_at_call 25; (refine (all_yes _ _ _ _ xs ps hO ?_ ?_ HX.out HM.out.right).mono ?_); (exact fun w' h => rdB_block HX.out.symm (own_get 2 h rfl) (by simp) (by simp)); (exact fun w' h => owns_rd h); clear hO; rintro e w4 ⟨g4, rfl, hO, hS4⟩; rw [HM.out.makes] at hO)
  go_loopw [12] (fun k' wr => ∃ k : Nat, k ≤ ps.length ∧ k' = .int .i64 k ∧ Own wr [pts g4 (.cells (bcs ys).toArray 5), owns 23 3 (.slice V ps.length cv) ps.length (cellsP ps), pts g2 (.cells (bcs ys).toArray 5), pts g1 (.cells (bcs xs).toArray 5), snap w] ∧ Same w wr) (fun k' _ => ps.length - (intOf k').toNat)
  case atStart => exact ⟨0, Nat.zero_le _, rfl, hO, hS1.trans (hS2.trans (hS3.trans hS4))⟩
  case round =>
    clear hO hS1 hS2 hS3 hS4
    obtain ⟨k, hk, rfl, hO, hS⟩ := hrel
    by_cases hlt : k < ps.length
    · have hp : ∃ b o d, ps[k] = Pat.mk b o d := ⟨_, _, _, rfl⟩
      obtain ⟨b0, o0, d0, hp⟩ := hp
      have hmem : Pat.mk b0 o0 d0 ∈ ps := by rw [← hp]; exact List.getElem_mem _
      obtain rfl : b0 = blk := HM.out.blk _ hmem
      have HID := Lib.hid (HM.out.idle _ hmem)
      have hri := HM.out.right _ hmem
      obtain ⟨p1, p2, p3, p4, p5, p6⟩ := rightB_iff.1 hri
      simp only at p1 p2 p3 p4 p5 p6
      obtain ⟨ad, rfl⟩ := (owns_rd (own_drop hO)).addr (by rw [cellsP_length]; omega)
      have HCA := Lib.hid (rdP_cells (k := k) (b0 := b0) (o0 := o0) (d0 := d0) (L := [pts g4 (.cells (bcs ys).toArray 5), owns 23 3 (.slice (some ad) ps.length cv) ps.length (cellsP ps), pts g2 (.cells (bcs ys).toArray 5), pts g1 (.cells (bcs xs).toArray 5), snap w]) (fun w' h => owns_rd (own_drop h)) hlt hp)
      have HLEN := HM.out.len
      have m3 : (k : Int) < ps.length := by omega
      clear hmem hri
      by_cases hk0 : k = 0
      · subst hk0
        have m0 : decide ((0 : Int) > 0) = false := by decide
        clear hp
        go_wp2
        refine wp_region_seq (Cls wr (pts g4 (.cells (bcs ys).toArray 5) :: owns 23 3 (.slice (some ad) ps.length cv) ps.length (cellsP ps) :: pts g2 (.cells (bcs ys).toArray 5) :: pts g1 (.cells (bcs xs).toArray 5) :: [snap w])) 43 101 mixed (by kernel_rfl) rfl (cls_drew hO) ?_
        simp only [List.take_succ_cons, List.take_zero]
        repeat (first
          | (apply wv_skip rfl; simp only [Act.put, List.setIfInBounds_toArray, List.set_cons_zero, List.set_cons_succ])
          | (apply wv_load1 rfl rfl rfl; (first | exact row_int | exact row_str | exact row_bool | exact row_u8 | exact row_bys | exact row_pats | exact row_err); (intro w h; (first | exact own_get 0 h.1 rfl | exact own_get 1 h.1 rfl | exact own_get 2 h.1 rfl | exact own_get 3 h.1 rfl | exact own_get 4 h.1 rfl | exact own_get 5 h.1 rfl | exact own_get 6 h.1 rfl | exact own_get 7 h.1 rfl)); (first | (simp only [List.getElem?_toArray, List.getElem?_cons_succ, List.getElem?_cons_zero]; rfl) | rfl); simp only [Act.put, List.setIfInBounds_toArray, List.set_cons_zero, List.set_cons_succ])
          | (apply wv_loadrow rfl rfl rfl; (first | exact row_pat); exact sz_pat; (intro w h; (first | exact own_get 0 h.1 rfl | exact own_get 1 h.1 rfl | exact own_get 2 h.1 rfl | exact own_get 3 h.1 rfl | exact own_get 4 h.1 rfl | exact own_get 5 h.1 rfl | exact own_get 6 h.1 rfl | exact own_get 7 h.1 rfl)); (focus (simp; done)); (first | (simp only [List.drop_zero, List.drop_succ_cons, List.take_succ_cons, List.take_zero]; rfl) | rfl); simp only [Act.put, List.setIfInBounds_toArray, List.set_cons_zero, List.set_cons_succ])
          | (refine wv_loadrow_at (vs := [.int .i64 b0, .int .i64 o0, .string d0]) (ad := ad.add (0 * 3)) rfl rfl rfl row_pat sz_pat rfl (fun w h => HCA.out w h.1) ?_; simp only [Act.put, List.setIfInBounds_toArray, List.set_cons_zero, List.set_cons_succ])
          | (refine wv_load1_at (ad := (ad.add (0 * 3)).add 0) rfl rfl rfl row_int (fun w h => HCA.out w h.1 0 _ rfl) ?_; simp only [Act.put, List.setIfInBounds_toArray, List.set_cons_zero, List.set_cons_succ])
          | (refine wv_load1_at (ad := (ad.add (0 * 3)).add 1) rfl rfl rfl row_int (fun w h => HCA.out w h.1 1 _ rfl) ?_; simp only [Act.put, List.setIfInBounds_toArray, List.set_cons_zero, List.set_cons_succ])
          | (refine wv_load1_at (ad := (ad.add (0 * 3)).add 2) rfl rfl rfl row_str (fun w h => HCA.out w h.1 2 _ rfl) ?_; simp only [Act.put, List.setIfInBounds_toArray, List.set_cons_zero, List.set_cons_succ])
          | (apply wv_run rfl; (focus (intro w h; go_simp; first | done | rfl)); simp only [Act.put, List.setIfInBounds_toArray, List.set_cons_zero, List.set_cons_succ])
          | (apply wv_call rfl; (focus (intro w; go_simp; first | done | exact ⟨rfl, rfl⟩)); (focus (intro w h; apply cls_call h; exact idle_not _ _ _ xs b0 o0 d0 h.1 (fun w' h => rdB_block HX.out.symm (own_get 3 h rfl) (by simp) (by simp)) HID.out)); simp only [Act.put, List.setIfInBounds_toArray, List.set_cons_zero, List.set_cons_succ]))
        refine wv_nil ?_
        simp only [List.drop_succ_cons, List.drop_zero]
        intro w5 ⟨hO5, hS5⟩
        clear hO
        go_wp2
        go_roundw
        case rel => exact ⟨0 + 1, by omega, by go_num, hO5, hS.trans hS5⟩
        case measure => simp [intOf]; omega
      · obtain ⟨m, hkm⟩ : ∃ m, k = m + 1 := ⟨k - 1, by omega⟩
        have hq : ∃ b o d, ps[m] = Pat.mk b o d := ⟨_, _, _, rfl⟩
        obtain ⟨b1, o1, d1, hq⟩ := hq
        have hgap := HM.out.gap m (by omega)
        have hp' : ps[m + 1] = Pat.mk b0 o0 d0 := by rw [← hp]; congr 1; exact hkm.symm
        rw [hp', hq] at hgap
        simp only at hgap
        obtain ⟨q1, q2, q3, q4, q5, q6⟩ := rightB_iff.1 (HM.out.right _ (List.getElem_mem (show m < ps.length by omega)))
        rw [hq] at q3 q4 q5 q6
        simp only at q3 q4 q5 q6
        have HCB := Lib.hid (rdP_cells (k := m) (b0 := b1) (o0 := o1) (d0 := d1) (L := [pts g4 (.cells (bcs ys).toArray 5), owns 23 3 (.slice (some ad) ps.length cv) ps.length (cellsP ps), pts g2 (.cells (bcs ys).toArray 5), pts g1 (.cells (bcs xs).toArray 5), snap w]) (fun w' h => owns_rd (own_drop h)) (by omega) hq)
        have m0 : decide (0 < k) = true := by simp; omega
        have m4 : IntKind.i64.wrap ((k : Int) - 1) = (m : Int) := by rw [IntKind.wrap_i64] <;> omega
        have m5 : (m : Int) < ps.length := by omega
        have m6 : IntKind.i64.wrap (o1 + (d1.size : Int)) = o1 + (d1.size : Int) := by rw [IntKind.wrap_i64] <;> omega
        have m7 : decide (o0 ≤ o1 + (d1.size : Int)) = false := by simp; omega
        clear hp hk0 hkm hq hp' hgap q1 q2
        go_wp2
        refine wp_region_seq (Cls wr (pts g4 (.cells (bcs ys).toArray 5) :: owns 23 3 (.slice (some ad) ps.length cv) ps.length (cellsP ps) :: pts g2 (.cells (bcs ys).toArray 5) :: pts g1 (.cells (bcs xs).toArray 5) :: [snap w])) 43 101 mixed (by kernel_rfl) rfl (cls_drew hO) ?_
        simp only [List.take_succ_cons, List.take_zero]
        repeat (first
          | (apply wv_skip rfl; simp only [Act.put, List.setIfInBounds_toArray, List.set_cons_zero, List.set_cons_succ])
          | (apply wv_load1 rfl rfl rfl; (first | exact row_int | exact row_str | exact row_bool | exact row_u8 | exact row_bys | exact row_pats | exact row_err); (intro w h; (first | exact own_get 0 h.1 rfl | exact own_get 1 h.1 rfl | exact own_get 2 h.1 rfl | exact own_get 3 h.1 rfl | exact own_get 4 h.1 rfl | exact own_get 5 h.1 rfl | exact own_get 6 h.1 rfl | exact own_get 7 h.1 rfl)); (first | (simp only [List.getElem?_toArray, List.getElem?_cons_succ, List.getElem?_cons_zero]; rfl) | rfl); simp only [Act.put, List.setIfInBounds_toArray, List.set_cons_zero, List.set_cons_succ])
          | (apply wv_loadrow rfl rfl rfl; (first | exact row_pat); exact sz_pat; (intro w h; (first | exact own_get 0 h.1 rfl | exact own_get 1 h.1 rfl | exact own_get 2 h.1 rfl | exact own_get 3 h.1 rfl | exact own_get 4 h.1 rfl | exact own_get 5 h.1 rfl | exact own_get 6 h.1 rfl | exact own_get 7 h.1 rfl)); (focus (simp; done)); (first | (simp only [List.drop_zero, List.drop_succ_cons, List.take_succ_cons, List.take_zero]; rfl) | rfl); simp only [Act.put, List.setIfInBounds_toArray, List.set_cons_zero, List.set_cons_succ])
          | (refine wv_loadrow_at (vs := [.int .i64 b0, .int .i64 o0, .string d0]) (ad := ad.add (k * 3)) rfl rfl rfl row_pat sz_pat rfl (fun w h => HCA.out w h.1) ?_; simp only [Act.put, List.setIfInBounds_toArray, List.set_cons_zero, List.set_cons_succ])
          | (refine wv_load1_at (ad := (ad.add (k * 3)).add 0) rfl rfl rfl row_int (fun w h => HCA.out w h.1 0 _ rfl) ?_; simp only [Act.put, List.setIfInBounds_toArray, List.set_cons_zero, List.set_cons_succ])
          | (refine wv_load1_at (ad := (ad.add (k * 3)).add 1) rfl rfl rfl row_int (fun w h => HCA.out w h.1 1 _ rfl) ?_; simp only [Act.put, List.setIfInBounds_toArray, List.set_cons_zero, List.set_cons_succ])
          | (refine wv_load1_at (ad := (ad.add (k * 3)).add 2) rfl rfl rfl row_str (fun w h => HCA.out w h.1 2 _ rfl) ?_; simp only [Act.put, List.setIfInBounds_toArray, List.set_cons_zero, List.set_cons_succ])
          | (refine wv_loadrow_at (vs := [.int .i64 b1, .int .i64 o1, .string d1]) (ad := ad.add (m * 3)) rfl rfl rfl row_pat sz_pat rfl (fun w h => HCB.out w h.1) ?_; simp only [Act.put, List.setIfInBounds_toArray, List.set_cons_zero, List.set_cons_succ])
          | (refine wv_load1_at (ad := (ad.add (m * 3)).add 0) rfl rfl rfl row_int (fun w h => HCB.out w h.1 0 _ rfl) ?_; simp only [Act.put, List.setIfInBounds_toArray, List.set_cons_zero, List.set_cons_succ])
          | (refine wv_load1_at (ad := (ad.add (m * 3)).add 1) rfl rfl rfl row_int (fun w h => HCB.out w h.1 1 _ rfl) ?_; simp only [Act.put, List.setIfInBounds_toArray, List.set_cons_zero, List.set_cons_succ])
          | (refine wv_load1_at (ad := (ad.add (m * 3)).add 2) rfl rfl rfl row_str (fun w h => HCB.out w h.1 2 _ rfl) ?_; simp only [Act.put, List.setIfInBounds_toArray, List.set_cons_zero, List.set_cons_succ])
          | (apply wv_run rfl; (focus (intro w h; go_simp; first | done | rfl)); simp only [Act.put, List.setIfInBounds_toArray, List.set_cons_zero, List.set_cons_succ])
          | (apply wv_call rfl; (focus (intro w; go_simp; first | done | exact ⟨rfl, rfl⟩)); (focus (intro w h; apply cls_call h; exact idle_not _ _ _ xs b0 o0 d0 h.1 (fun w' h => rdB_block HX.out.symm (own_get 3 h rfl) (by simp) (by simp)) HID.out)); simp only [Act.put, List.setIfInBounds_toArray, List.set_cons_zero, List.set_cons_succ]))
        refine wv_nil ?_
        simp only [List.drop_succ_cons, List.drop_zero]
        intro w5 ⟨hO5, hS5⟩
        clear hO
        go_wp2
        go_roundw
        case rel => exact ⟨k + 1, by omega, by go_num, hO5, hS.trans hS5⟩
        case measure => simp [intOf]; omega
    · have hke : k = ps.length := by omega
      subst hke
      by_cases hxy : xs = ys
      · have hn := HM.out.none.2 hxy
        have n1 : ((ps.length : Int) == 0) = true := by rw [hn]; rfl
        have n2 : ((bstr xs).toList == (bstr ys).toList) = true := by rw [hxy]; simp
        have n3 : ((bstr ys).toList == (bstr ys).toList) = true := by simp
        clear hxy hn
        go_upto_region 9 with fail
        refine wp_plain_seq (Cls wr (pts g4 (.cells (bcs ys).toArray 5) :: owns 23 3 (.slice V ps.length cv) ps.length (cellsP ps) :: pts g2 (.cells (bcs ys).toArray 5) :: pts g1 (.cells (bcs xs).toArray 5) :: [snap w])) 23 (cls_here hO) ?_
        simp only [List.take_succ_cons, List.take_zero]
        repeat (first
          | (apply wv_skip rfl; simp only [Act.put, List.setIfInBounds_toArray, List.set_cons_zero, List.set_cons_succ])
          | (apply wv_load1 rfl rfl rfl; (first | exact row_int | exact row_str | exact row_bool | exact row_u8 | exact row_bys | exact row_pats | exact row_err); (intro w h; (first | exact own_get 0 h.1 rfl | exact own_get 1 h.1 rfl | exact own_get 2 h.1 rfl | exact own_get 3 h.1 rfl | exact own_get 4 h.1 rfl | exact own_get 5 h.1 rfl | exact own_get 6 h.1 rfl | exact own_get 7 h.1 rfl)); (first | (simp only [List.getElem?_toArray, List.getElem?_cons_succ, List.getElem?_cons_zero]; rfl) | rfl); simp only [Act.put, List.setIfInBounds_toArray, List.set_cons_zero, List.set_cons_succ])
          | (apply wv_loadrow rfl rfl rfl; (first | exact row_pat); exact sz_pat; (intro w h; (first | exact own_get 0 h.1 rfl | exact own_get 1 h.1 rfl | exact own_get 2 h.1 rfl | exact own_get 3 h.1 rfl | exact own_get 4 h.1 rfl | exact own_get 5 h.1 rfl | exact own_get 6 h.1 rfl | exact own_get 7 h.1 rfl)); (focus (simp; done)); (first | (simp only [List.drop_zero, List.drop_succ_cons, List.take_succ_cons, List.take_zero]; rfl) | rfl); simp only [Act.put, List.setIfInBounds_toArray, List.set_cons_zero, List.set_cons_succ])
          | (refine wv_string (n := 32) (bs := ys) rfl rfl rfl Try.underlying28 Try.underlying5 Try.underlying9 HY.out.symm (fun w h => rdN_block HY.out.symm (own_get 0 h.1 rfl) (by simp) (by simp)) ?_; simp only [Act.put, List.setIfInBounds_toArray, List.set_cons_zero, List.set_cons_succ])
          | (refine wv_string (n := 32) (bs := ys) rfl rfl rfl Try.underlying28 Try.underlying5 Try.underlying9 HY.out.symm (fun w h => rdN_block HY.out.symm (own_get 2 h.1 rfl) (by simp) (by simp)) ?_; simp only [Act.put, List.setIfInBounds_toArray, List.set_cons_zero, List.set_cons_succ])
          | (refine wv_string (n := 32) (bs := xs) rfl rfl rfl Try.underlying28 Try.underlying5 Try.underlying9 HX.out.symm (fun w h => rdN_block HX.out.symm (own_get 3 h.1 rfl) (by simp) (by simp)) ?_; simp only [Act.put, List.setIfInBounds_toArray, List.set_cons_zero, List.set_cons_succ])
          | (apply wv_run rfl; (focus (intro w h; go_simp; first | done | rfl)); simp only [Act.put, List.setIfInBounds_toArray, List.set_cons_zero, List.set_cons_succ])
          | (apply wv_call rfl; (focus (intro w; go_simp; first | done | exact ⟨rfl, rfl⟩)); (focus (intro w h; apply cls_call h; first | exact live_c _ _ h.1)); simp only [Act.put, List.setIfInBounds_toArray, List.set_cons_zero, List.set_cons_succ]))
        refine wv_nil ?_
        simp only [List.drop_succ_cons, List.drop_zero]
        intro w11 ⟨hO11, hS11⟩
        clear hO
        go_wp2
        go_ret
        exact ⟨rfl, below_of (own_at hO11 (k := 4) rfl) (hS.trans hS11)⟩
      · have hn : ¬ ps.length = 0 := fun h => hxy (HM.out.none.1 h)
        have n1 : ((ps.length : Int) == 0) = false := by simp; exact fun h => hn (by simp [h])
        have n2 : ((bstr xs).toList == (bstr ys).toList) = false := by
          simp only [ByteArray.toList_eq, bstr_toList, beq_eq_false_iff_ne, ne_eq]; exact hxy
        have n3 : ((bstr ys).toList == (bstr ys).toList) = true := by simp
        clear hxy hn
        go_upto_region 9 with fail
        refine wp_plain_seq (Cls wr (pts g4 (.cells (bcs ys).toArray 5) :: owns 23 3 (.slice V ps.length cv) ps.length (cellsP ps) :: pts g2 (.cells (bcs ys).toArray 5) :: pts g1 (.cells (bcs xs).toArray 5) :: [snap w])) 23 (cls_here hO) ?_
        simp only [List.take_succ_cons, List.take_zero]
        repeat (first
          | (apply wv_skip rfl; simp only [Act.put, List.setIfInBounds_toArray, List.set_cons_zero, List.set_cons_succ])
          | (apply wv_load1 rfl rfl rfl; (first | exact row_int | exact row_str | exact row_bool | exact row_u8 | exact row_bys | exact row_pats | exact row_err); (intro w h; (first | exact own_get 0 h.1 rfl | exact own_get 1 h.1 rfl | exact own_get 2 h.1 rfl | exact own_get 3 h.1 rfl | exact own_get 4 h.1 rfl | exact own_get 5 h.1 rfl | exact own_get 6 h.1 rfl | exact own_get 7 h.1 rfl)); (first | (simp only [List.getElem?_toArray, List.getElem?_cons_succ, List.getElem?_cons_zero]; rfl) | rfl); simp only [Act.put, List.setIfInBounds_toArray, List.set_cons_zero, List.set_cons_succ])
          | (apply wv_loadrow rfl rfl rfl; (first | exact row_pat); exact sz_pat; (intro w h; (first | exact own_get 0 h.1 rfl | exact own_get 1 h.1 rfl | exact own_get 2 h.1 rfl | exact own_get 3 h.1 rfl | exact own_get 4 h.1 rfl | exact own_get 5 h.1 rfl | exact own_get 6 h.1 rfl | exact own_get 7 h.1 rfl)); (focus (simp; done)); (first | (simp only [List.drop_zero, List.drop_succ_cons, List.take_succ_cons, List.take_zero]; rfl) | rfl); simp only [Act.put, List.setIfInBounds_toArray, List.set_cons_zero, List.set_cons_succ])
          | (refine wv_string (n := 32) (bs := ys) rfl rfl rfl Try.underlying28 Try.underlying5 Try.underlying9 HY.out.symm (fun w h => rdN_block HY.out.symm (own_get 0 h.1 rfl) (by simp) (by simp)) ?_; simp only [Act.put, List.setIfInBounds_toArray, List.set_cons_zero, List.set_cons_succ])
          | (refine wv_string (n := 32) (bs := ys) rfl rfl rfl Try.underlying28 Try.underlying5 Try.underlying9 HY.out.symm (fun w h => rdN_block HY.out.symm (own_get 2 h.1 rfl) (by simp) (by simp)) ?_; simp only [Act.put, List.setIfInBounds_toArray, List.set_cons_zero, List.set_cons_succ])
          | (refine wv_string (n := 32) (bs := xs) rfl rfl rfl Try.underlying28 Try.underlying5 Try.underlying9 HX.out.symm (fun w h => rdN_block HX.out.symm (own_get 3 h.1 rfl) (by simp) (by simp)) ?_; simp only [Act.put, List.setIfInBounds_toArray, List.set_cons_zero, List.set_cons_succ])
          | (apply wv_run rfl; (focus (intro w h; go_simp; first | done | rfl)); simp only [Act.put, List.setIfInBounds_toArray, List.set_cons_zero, List.set_cons_succ])
          | (apply wv_call rfl; (focus (intro w; go_simp; first | done | exact ⟨rfl, rfl⟩)); (focus (intro w h; apply cls_call h; first | exact live_c _ _ h.1)); simp only [Act.put, List.setIfInBounds_toArray, List.set_cons_zero, List.set_cons_succ]))
        refine wv_nil ?_
        simp only [List.drop_succ_cons, List.drop_zero]
        intro w11 ⟨hO11, hS11⟩
        clear hO
        go_wp2
        go_ret
        exact ⟨rfl, below_of (own_at hO11 (k := 4) rfl) (hS.trans hS11)⟩
end Go.Proofs.Ytefohmjllcnnkaa.H
