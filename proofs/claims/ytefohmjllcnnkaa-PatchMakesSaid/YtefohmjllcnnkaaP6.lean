/- Contract of patch.All. -/
import Derived.Test.YtefohmjllcnnkaaP5
set_option linter.unusedVariables false
set_option linter.unusedSimpArgs false
set_option maxRecDepth 100000
namespace Go.Proofs.Ytefohmjllcnnkaa.H
open Go.RowKit
abbrev RdP (w : World) (v : Value) (ps : List Pat) : Prop := Rd w 3 v ps.length (cellsP ps)
/-- What holds at each round of All's loop. -/
def AllInv (L : List HP) (w0 : World) (g : Nat) (bs : List UInt8) (ps : List Pat) (k : Nat) (wr : World) : Prop :=
  (∀ p ∈ ps.take k, rightB p = true) ∧ Own wr (pts g (.cells (bcs (appAll bs (ps.take k))).toArray 5) :: L) ∧ Same w0 wr
/-- What All hands back. -/
def AllPost (L : List HP) (w0 : World) (bs : List UInt8) (ps : List Pat) (e : Ending) (w' : World) : Prop :=
  if (∀ p ∈ ps, rightB p = true) then RetX w0 (fun g => .tuple #[.slice (some ⟨g, 0, none⟩) 32 32, .int .i64 0]) (fun g => pts g (.cells (bcs (appAll bs ps)).toArray 5) :: L) e w'
  else Ret w0 (.tuple #[.slice none 0 0, .int .i64 3]) L e w'
set_option maxHeartbeats 800000 in
theorem all_ok (w : World) (L : List HP) (v vp : Value) (bs : List UInt8) (ps : List Pat) (hO : Own w L) (hr : ∀ w', Own w' L → RdB w' v bs) (hrp : ∀ w', Own w' L → RdP w' vp ps) (h32 : bs.length = 32) :
    Calls Try.prog 25 #[v, vp] w (AllPost L w bs ps) := by
  obtain ⟨A, c, rfl⟩ := (hr w hO).slice
  obtain ⟨AP, cp, rfl⟩ := (hrp w hO).slice
  have hmax := (hrp w hO).max
  have hlen : ((bs.length : Int) != 32) = false := by simp; omega
  have H32 : Hid (bs.length = 32) := h32
  have HR := Lib.hid hr
  have HRP := Lib.hid hrp
  clear h32 hr hrp
  go_enter Try.func25, Try.ntmps25
  go_wp2_with (first | (at_make; refine own_make (n := 32) rfl rfl rfl rfl Try.underlying28 info_u8 (by decide) (by decide) (made_bytes 32) hO ?_; clear hO; intro g w3 hO hS3) | (refine own_copy (m := 32) (n := bs.length) (new := bcs bs) rfl rfl rfl rfl Try.underlying28 sz_u8 ?_ (bcs_one bs) hO (k := 0) rfl ?_ ?_ ?_ ?_; exact HR.out _ (own_drop hO); (rw [H32.out]; rfl); (simp [bcs_length]); (exact copy_whole (by simp [bcs_length]) (by simp [bcs_length, H32.out])); clear hO; intro w4 hO hS4; simp only [List.set_cons_zero] at hO))
  go_loopw [18] (fun i wr => ∃ k : Nat, k ≤ ps.length ∧ i = .int .i64 k ∧ AllInv L w g bs ps k wr) (fun i _ => ps.length - (intOf i).toNat)
  case atStart => exact ⟨0, Nat.zero_le _, rfl, by simp, hO, hS3.trans hS4⟩
  case round =>
    obtain ⟨k, hk, rfl, hright, hO, hS⟩ := hrel
    by_cases hlt : k < ps.length
    · have hp : ∃ b o d, ps[k] = Pat.mk b o d := ⟨_, _, _, rfl⟩
      obtain ⟨b0, o0, d0, hp⟩ := hp
      have hrd := HRP.out _ (own_drop hO)
      obtain ⟨ad, rfl⟩ := hrd.addr (by rw [cellsP_length]; omega)
      have hcells : ∀ (j : Nat) (u : Value), [Value.int .i64 b0, .int .i64 o0, .string d0][j]? = some u → wr.cell? ((ad.add (k * 3)).add j) = some u := fun j u hu => hrd.cell (cellsP_at ps k hlt j u (by rw [hp]; exact hu))
      have HC := Lib.hid hcells
      have HP := Lib.hid hp
      have HRT := Lib.hid hright
      have hmax1 := hmax.1
      have hmax2 := hmax.2
      clear hcells hp hright hrd
      by_cases hR : rightB ⟨b0, o0, d0⟩ = true
      · obtain ⟨p1, p2, p3, p4, p5, p6⟩ := rightB_iff.1 hR
        simp only at p1 p2 p3 p4 p5 p6
        have q1 : o0 ≤ 32 := by omega
        have q2 : ¬ (32 = o0.toNat) := by omega
        have q3 : d0.size ≤ 32 - o0.toNat := by omega
        have q4 : o0.toNat + d0.size ≤ 32 := by omega
        have Q2 := Lib.hid q2
        clear q2
        go_wp2_with (first | (refine own_loadrow_at (vs := [.int .i64 b0, .int .i64 o0, .string d0]) rfl rfl rfl row_pat sz_pat rfl HC.out ?_) | (refine own_alloc rfl rfl zero_pat rfl hO ?_; clear hO; intro b w5 hO hS5) | (refine own_store_all (k := 0) rfl rfl rfl rfl sz_pat hO rfl rfl rfl rfl ?_; clear hO; intro w6 hO hS6; simp only [List.set_cons_zero] at hO) | (apply own_loadrow rfl rfl rfl; (first | exact row_pat); exact sz_pat; (first | exact own_get 0 hO rfl | exact own_get 1 hO rfl | exact own_get 2 hO rfl | exact own_get 3 hO rfl | exact own_get 4 hO rfl | exact own_get 5 hO rfl | exact own_get 6 hO rfl | exact own_get 7 hO rfl); (focus (simp; done)); (first | (simp only [List.drop_zero, List.drop_succ_cons, List.take_succ_cons, List.take_zero]; rfl) | rfl)) | (go_at_call 23; refine (right_v _ _ _ _ _ hR hO).mono ?_; clear hO; rintro e w7 ⟨rfl, hO, hS7⟩))
        have q2 := Q2.out
        have HL : Hid ((appAll bs (ps.take k)).length = 32) := appAll_length _ _ H32.out HRT.out
        refine wp_region_seq (Cls w7 (pts b (.cells #[.int .i64 b0, .int .i64 o0, .string d0] 23) :: pts g (.cells (bcs (appAll bs (ps.take k))).toArray 5) :: L)) 6 34 mixed (by kernel_rfl) rfl (cls_drew hO) ?_
        simp only [List.take_succ_cons, List.take_zero]
        repeat (first
          | (apply wv_skip rfl; simp only [Act.put, List.setIfInBounds_toArray, List.set_cons_zero, List.set_cons_succ])
          | (apply wv_load1 rfl rfl rfl; (first | exact row_int | exact row_str | exact row_bool | exact row_u8 | exact row_bys | exact row_pats | exact row_err); (intro w h; (first | exact own_get 0 h.1 rfl | exact own_get 1 h.1 rfl | exact own_get 2 h.1 rfl | exact own_get 3 h.1 rfl | exact own_get 4 h.1 rfl | exact own_get 5 h.1 rfl | exact own_get 6 h.1 rfl | exact own_get 7 h.1 rfl)); (first | (simp only [List.getElem?_toArray, List.getElem?_cons_succ, List.getElem?_cons_zero]; rfl) | rfl); simp only [Act.put, List.setIfInBounds_toArray, List.set_cons_zero, List.set_cons_succ])
          | (apply wv_loadrow rfl rfl rfl; (first | exact row_pat); exact sz_pat; (intro w h; (first | exact own_get 0 h.1 rfl | exact own_get 1 h.1 rfl | exact own_get 2 h.1 rfl | exact own_get 3 h.1 rfl | exact own_get 4 h.1 rfl | exact own_get 5 h.1 rfl | exact own_get 6 h.1 rfl | exact own_get 7 h.1 rfl)); (focus (simp; done)); (first | (simp only [List.drop_zero, List.drop_succ_cons, List.take_succ_cons, List.take_zero]; rfl) | rfl); simp only [Act.put, List.setIfInBounds_toArray, List.set_cons_zero, List.set_cons_succ])
          | (apply wv_run rfl; (focus (intro w h; go_simp; first | done | rfl)); simp only [Act.put, List.setIfInBounds_toArray, List.set_cons_zero, List.set_cons_succ])
          | (apply wv_call rfl; (focus (intro w; go_simp; first | done | exact ⟨rfl, rfl⟩)); (focus (intro w h; apply cls_call h; fail)); simp only [Act.put, List.setIfInBounds_toArray, List.set_cons_zero, List.set_cons_succ]))
        refine wv_nil ?_
        simp only [List.drop_succ_cons, List.drop_zero]
        intro w8 ⟨hO8, hS8⟩
        clear hO
        refine own_copy_str (new := bcs (appAll bs (ps.take (k + 1)))) rfl rfl rfl rfl Try.underlying28 sz_u8 hO8 (k := 1) rfl q3 ?_ ?_ ?_
        · simp only [List.size_toArray, bcs_length, HL.out]; exact q4
        · rw [List.take_succ_eq_append_getElem hlt, appAll_snoc, HP.out]
          exact bcs_over _ _ _ (by rw [Array.length_toList]; rfl)
        intro w9 hO9 hS9
        simp only [List.set_cons_zero, List.set_cons_succ] at hO9
        clear hO8
        go_wp2
        go_roundw
        case rel =>
          refine ⟨k + 1, by omega, by go_num, ?_, own_drop hO9, hS.trans (hS5.trans (hS6.trans (hS7.trans (hS8.trans hS9))))⟩
          intro p hpm
          rw [List.take_succ_eq_append_getElem hlt] at hpm
          rcases List.mem_append.1 hpm with h | h
          · exact HRT.out p h
          · simp at h; rw [h, HP.out]; exact hR
        case measure => simp [intOf]; omega
      · have hR : rightB ⟨b0, o0, d0⟩ = false := by simpa using hR
        go_wp2_with (first | (refine own_loadrow_at (vs := [.int .i64 b0, .int .i64 o0, .string d0]) rfl rfl rfl row_pat sz_pat rfl HC.out ?_) | (refine own_alloc rfl rfl zero_pat rfl hO ?_; clear hO; intro b w5 hO hS5) | (refine own_store_all (k := 0) rfl rfl rfl rfl sz_pat hO rfl rfl rfl rfl ?_; clear hO; intro w6 hO hS6; simp only [List.set_cons_zero] at hO) | (apply own_loadrow rfl rfl rfl; (first | exact row_pat); exact sz_pat; (first | exact own_get 0 hO rfl | exact own_get 1 hO rfl | exact own_get 2 hO rfl | exact own_get 3 hO rfl | exact own_get 4 hO rfl | exact own_get 5 hO rfl | exact own_get 6 hO rfl | exact own_get 7 hO rfl); (focus (simp; done)); (first | (simp only [List.drop_zero, List.drop_succ_cons, List.take_succ_cons, List.take_zero]; rfl) | rfl)) | (go_at_call 23; refine (right_v _ _ _ _ _ hR hO).mono ?_; clear hO; rintro e w7 ⟨rfl, hO, hS7⟩))
        go_ret2
        unfold AllPost
        rw [if_neg (fun hall => by have := hall ps[k] (List.getElem_mem hlt); rw [HP.out, hR] at this; cases this)]
        exact ⟨rfl, own_drop (own_drop hO), hS.trans (hS5.trans (hS6.trans hS7))⟩
    · have hkk : k = ps.length := by omega
      have HK := Lib.hid hkk
      have HRT := Lib.hid hright
      clear hkk hright
      go_wp2
      go_ret2
      have hkk := HK.out
      subst hkk
      unfold AllPost
      rw [List.take_length] at hO
      rw [if_pos (by have := HRT.out; rw [List.take_length] at this; exact this)]
      exact ⟨g, rfl, hO, hS⟩
theorem all_len (w : World) (L : List HP) (v vp : Value) (bs : List UInt8) (hO : Own w L) (hr : ∀ w', Own w' L → RdB w' v bs) (h32 : ¬ bs.length = 32) :
    Calls Try.prog 25 #[v, vp] w (Ret w (.tuple #[.slice none 0 0, .int .i64 3]) L) := by
  obtain ⟨A, c, rfl⟩ := (hr w hO).slice
  have hlen : ((bs.length : Int) != 32) = true := by simp; omega
  clear h32 hr
  go_enter Try.func25, Try.ntmps25
  go_wp2
  go_ret2
  exact ⟨rfl, hO, Same.refl _⟩
end Go.Proofs.Ytefohmjllcnnkaa.H
