/- PatchUndoes: the walk. -/
import Derived.Test.YtefohmjllcnnkaaL2
set_option linter.unusedVariables false
set_option linter.unusedSimpArgs false
set_option maxRecDepth 100000
namespace Go.Proofs.Ytefohmjllcnnkaa.H
open Go.RowKit
theorem bstr_size' (l : List UInt8) : (bstr l).size = l.length := bstr_size l
theorem over_undo {α : Type} (b d : List α) (i : Nat) (hi : i + d.length ≤ b.length) : over (over b i d) i ((b.drop i).take d.length) = b := by
  have hl : ((b.drop i).take d.length).length = d.length := by simp; omega
  have h1 : (over b i d).take i = b.take i := by
    unfold over
    rw [List.append_assoc, List.take_append_of_le_length (by rw [List.length_take]; omega), List.take_take, Nat.min_self]
  have h2 : (over b i d).drop (i + d.length) = b.drop (i + d.length) := by
    unfold over
    rw [List.drop_append_of_le_length (by simp; omega)]
    rw [List.drop_eq_nil_of_le (by simp; omega)]
    simp
  have h0 : over (over b i d) i ((b.drop i).take d.length) = (over b i d).take i ++ (b.drop i).take d.length ++ (over b i d).drop (i + ((b.drop i).take d.length).length) := rfl
  rw [h0, hl, h1, h2, ← List.drop_drop, List.append_assoc, List.take_append_drop, List.take_append_drop]
theorem over_mid {α : Type} (b d : List α) (i : Nat) (hi : i + d.length ≤ b.length) : ((over b i d).drop i).take d.length = d := by
  unfold over
  rw [List.append_assoc, List.drop_append_of_le_length (by simp; omega), List.drop_eq_nil_of_le (by simp; omega), List.nil_append]
  simp
/-- A block of bytes, whose length is known by another name. -/
theorem rdB_block {w : World} {b m c : Nat} {bs : List UInt8} {t : TypeId} {fr : Nat × Nat} (hm : m = bs.length) (hg : w.heap[b]? = some (.cells (bcs bs).toArray t fr)) (hc : m ≤ c) (hx : c ≤ 9223372036854775807) : RdB w (.slice (some ⟨b, 0, none⟩) m c) bs := by
  subst hm
  exact rd_block hg (List.take_of_length_le (by simp [bcs_length])) (by simp [bcs_length]) hc hx
def undoP (b : List UInt8) (p : Pat) : Pat := ⟨p.blk, p.off, bstr ((b.drop p.off.toNat).take p.dat.size)⟩
theorem undo_app (b : List UInt8) (p : Pat) (hb : b.length = 32) (hp : rightB p = true) : app (app b p) (undoP b p) = b := by
  obtain ⟨p1, p2, p3, p4, p5, p6⟩ := rightB_iff.1 hp
  have hs : p.dat.size = p.dat.data.toList.length := by rw [Array.length_toList]; rfl
  unfold app undoP
  simp only [bstr_toList, hs]
  exact over_undo _ _ _ (by omega)
theorem undo_right (b : List UInt8) (p : Pat) (hb : b.length = 32) (hp : rightB p = true) : rightB (undoP b p) = true := by
  obtain ⟨p1, p2, p3, p4, p5, p6⟩ := rightB_iff.1 hp
  refine rightB_iff.2 ?_
  simp only [undoP, bstr_size, List.length_take, List.length_drop]
  omega
theorem app_then_idle (b : List UInt8) (p : Pat) (hb : b.length = 32) (hp : rightB p = true) : idleB (app b p) p = true := by
  obtain ⟨p1, p2, p3, p4, p5, p6⟩ := rightB_iff.1 hp
  have hs : p.dat.size = p.dat.data.toList.length := by rw [Array.length_toList]; rfl
  simp only [idleB, Bool.and_eq_true, decide_eq_true_eq]
  refine ⟨⟨app_length b p hb hp, hp⟩, ?_⟩
  unfold app
  rw [hs]
  exact over_mid _ _ _ (by omega)
theorem idle_yes (w : World) (L : List HP) (v : Value) (bs : List UInt8) (a0 a1 : Int) (s : ByteArray) (hO : Own w L) (hr : ∀ w', Own w' L → RdB w' v bs) (hi : idleB bs ⟨a0, a1, s⟩ = true) :
    Calls Try.prog 21 #[v, .agg #[.int .i64 a0, .int .i64 a1, .string s]] w (Ret w (.bool true) L) := by
  have h := idle_c w L v bs a0 a1 s hO hr
  rw [hi] at h
  exact h
set_option maxHeartbeats 1000000 in
theorem undoes_c (w : World) (A : Option Addr) (n c : Nat) (l : List UInt8) (a0 a1 : Int) (s : ByteArray) (hl : n = l.length) (hr : Rd w 1 (.slice A n c) n (bcs l)) :
    Calls Try.prog 5 #[.slice A n c, .agg #[.int .i64 a0, .int .i64 a1, .string s]] w (fun e w' => e = .returned (.bool true) ∧ Below w.heap.size w w') := by
  have hmx := hr.max
  have hrd : Rd w 1 (.slice A (min n 40) c) (min n 40) (bcs (l.take 40)) := by
    have h := hr.low (k := min n 40) (c' := c) (by omega) (by omega) hmx.2
    rw [Nat.mul_one] at h
    have e : (bcs l).take (min n 40) = bcs (l.take 40) := by
      rw [hl, bcs, ← List.map_take, Nat.min_comm, ← List.take_eq_take_min]; rfl
    rwa [e] at h
  obtain ⟨bs, hbs⟩ : ∃ bs, bs = l.take 40 := ⟨_, rfl⟩
  have hbl : min n 40 = bs.length := by rw [hbs, List.length_take, hl]; omega
  rw [← hbs, hbl] at hrd
  have HRD := Lib.hid hrd
  have HBL := Lib.hid hbl
  have hb40 : bs.length ≤ 40 := by omega
  have hO : Own w [snap w] := own_snap
  clear hr hrd hbs hl hbl
  by_cases hc : bs.length = 32 ∧ rightB ⟨a0, a1, s⟩ = true
  · have HC := Lib.hid hc
    have HU : Hid (app (app bs ⟨a0, a1, s⟩) ⟨a0, a1, bstr ((bs.drop a1.toNat).take s.size)⟩ = bs) := undo_app bs ⟨a0, a1, s⟩ hc.1 hc.2
    have HUR : Hid (rightB ⟨a0, a1, bstr ((bs.drop a1.toNat).take s.size)⟩ = true) := undo_right bs ⟨a0, a1, s⟩ hc.1 hc.2
    have HID : Hid (idleB (app bs ⟨a0, a1, s⟩) ⟨a0, a1, s⟩ = true) := app_then_idle bs ⟨a0, a1, s⟩ hc.1 hc.2
    have HN : Hid (32 = (app bs ⟨a0, a1, s⟩).length) := (app_length bs ⟨a0, a1, s⟩ hc.1 hc.2).symm
    have HB : Hid (32 = bs.length) := hc.1.symm
    clear hc
    go_enter Try.func5, Try.ntmps5
    go_upto_region 6 with (first | (refine own_box_agg (x := .tmp 1) rfl rfl rfl hO ?_; clear hO; intro b w1 hO hS1) | (apply own_loadrow rfl rfl rfl; (first | exact row_pat); exact sz_pat; (first | exact own_get 0 hO rfl | exact own_get 1 hO rfl | exact own_get 2 hO rfl | exact own_get 3 hO rfl | exact own_get 4 hO rfl | exact own_get 5 hO rfl | exact own_get 6 hO rfl | exact own_get 7 hO rfl); (focus (simp; done)); (first | (simp only [List.drop_zero, List.drop_succ_cons, List.take_succ_cons, List.take_zero]; rfl) | rfl)) | (go_at_call 16; refine (few_c _ _ _ _ (by omega) (by omega)).mono ?_; rintro e w2 ⟨rfl, rfl⟩; rw [HBL.out]) | (go_at_call 17; refine (apply_ok _ _ _ bs _ _ _ hO (fun w' h => rd_snap HRD.out h (k := 1) rfl) HC.out.1 HC.out.2).mono ?_; clear hO; rintro e w5 ⟨g1, rfl, hO, hS5⟩) | (go_at_call 19; refine (undo_ok _ _ _ bs _ _ _ hO (fun w' h => rd_snap HRD.out h (k := 2) rfl) HC.out.1 HC.out.2).mono ?_; clear hO; rintro e w7 ⟨rfl, hO, hS7⟩) | (refine own_alloc rfl rfl zero_pat rfl hO ?_; clear hO; intro u w9 hO hS9) | (refine own_store_all (k := 0) rfl rfl rfl rfl sz_pat hO rfl rfl rfl rfl ?_; clear hO; intro w10 hO hS10; simp only [List.set_cons_zero] at hO))
    go_upto_region 7 with (first | (apply own_loadrow rfl rfl rfl; (first | exact row_pat); exact sz_pat; (first | exact own_get 0 hO rfl | exact own_get 1 hO rfl | exact own_get 2 hO rfl | exact own_get 3 hO rfl | exact own_get 4 hO rfl | exact own_get 5 hO rfl | exact own_get 6 hO rfl | exact own_get 7 hO rfl); (focus (simp; done)); (first | (simp only [List.drop_zero, List.drop_succ_cons, List.take_succ_cons, List.take_zero]; rfl) | rfl)) | (go_at_call 17; refine (apply_ok _ _ _ (app bs ⟨a0, a1, s⟩) _ _ _ hO (fun w' h => rdB_block HN.out (own_get 1 h rfl) (by simp) (by simp)) HN.out.symm HUR.out).mono ?_; rw [HU.out]; clear hO; rintro e w6 ⟨g2, rfl, hO, hS6⟩))
    refine wp_plain_seq (Cls w6 (_)) 21 (cls_here hO) ?_
    simp only [List.take_succ_cons, List.take_zero]
    repeat (first
      | (apply wv_skip rfl; simp only [Act.put, List.setIfInBounds_toArray, List.set_cons_zero, List.set_cons_succ])
      | (apply wv_load1 rfl rfl rfl; (first | exact row_int | exact row_str | exact row_bool | exact row_u8 | exact row_bys | exact row_pats | exact row_err); (intro w h; (first | exact own_get 0 h.1 rfl | exact own_get 1 h.1 rfl | exact own_get 2 h.1 rfl | exact own_get 3 h.1 rfl | exact own_get 4 h.1 rfl | exact own_get 5 h.1 rfl | exact own_get 6 h.1 rfl | exact own_get 7 h.1 rfl)); (first | (simp only [List.getElem?_toArray, List.getElem?_cons_succ, List.getElem?_cons_zero]; rfl) | rfl); simp only [Act.put, List.setIfInBounds_toArray, List.set_cons_zero, List.set_cons_succ])
      | (apply wv_loadrow rfl rfl rfl; (first | exact row_pat); exact sz_pat; (intro w h; (first | exact own_get 0 h.1 rfl | exact own_get 1 h.1 rfl | exact own_get 2 h.1 rfl | exact own_get 3 h.1 rfl | exact own_get 4 h.1 rfl | exact own_get 5 h.1 rfl | exact own_get 6 h.1 rfl | exact own_get 7 h.1 rfl)); (focus (simp; done)); (first | (simp only [List.drop_zero, List.drop_succ_cons, List.take_succ_cons, List.take_zero]; rfl) | rfl); simp only [Act.put, List.setIfInBounds_toArray, List.set_cons_zero, List.set_cons_succ])
      | (refine wv_string (n := 32) (bs := bs) rfl rfl rfl Try.underlying28 Try.underlying5 Try.underlying9 HB.out (fun w h => rd_block (own_get 0 h.1 rfl) (List.take_of_length_le (by simp [bcs_length, ← HB.out])) (by simp [bcs_length, ← HB.out]) (by simp) (by simp)) ?_; simp only [Act.put, List.setIfInBounds_toArray, List.set_cons_zero, List.set_cons_succ])
      | (refine wv_string (n := bs.length) (bs := bs) rfl rfl rfl Try.underlying28 Try.underlying5 Try.underlying9 rfl (fun w h => rd_snap HRD.out h.1 (k := 4) rfl) ?_; simp only [Act.put, List.setIfInBounds_toArray, List.set_cons_zero, List.set_cons_succ])
      | (apply wv_run rfl; (focus (intro w h; go_simp; first | done | rfl)); simp only [Act.put, List.setIfInBounds_toArray, List.set_cons_zero, List.set_cons_succ])
      | (apply wv_call rfl; (focus (intro w; go_simp; first | done | exact ⟨rfl, rfl⟩)); (focus (intro w h; apply cls_call h; first | exact live_c _ _ h.1 | exact idle_yes _ _ _ (app bs ⟨a0, a1, s⟩) _ _ _ h.1 (fun w' hh => rdB_block HN.out (own_get 2 hh rfl) (by simp) (by simp)) HID.out | exact right_v _ _ _ _ _ HUR.out h.1)); simp only [Act.put, List.setIfInBounds_toArray, List.set_cons_zero, List.set_cons_succ]))
    refine wv_nil ?_
    simp only [List.drop_succ_cons, List.drop_zero]
    intro w11 ⟨hO11, hS11⟩
    clear hO
    go_wp2
    go_ret
    exact ⟨rfl, below_of (own_at hO11 (k := 4) rfl) (hS1.trans (hS5.trans (hS7.trans (hS9.trans (hS10.trans (hS6.trans hS11))))))⟩
  · have hno : bs.length = 32 → rightB ⟨a0, a1, s⟩ = false := fun h => by
      cases h2 : rightB ⟨a0, a1, s⟩ with
      | false => rfl
      | true => exact absurd ⟨h, h2⟩ hc
    have HC := Lib.hid hno
    clear hc hno
    go_enter Try.func5, Try.ntmps5
    go_upto_region 5 with (first | (refine own_box_agg (x := .tmp 1) rfl rfl rfl hO ?_; clear hO; intro b w1 hO hS1) | (apply own_loadrow rfl rfl rfl; (first | exact row_pat); exact sz_pat; (first | exact own_get 0 hO rfl | exact own_get 1 hO rfl | exact own_get 2 hO rfl | exact own_get 3 hO rfl | exact own_get 4 hO rfl | exact own_get 5 hO rfl | exact own_get 6 hO rfl | exact own_get 7 hO rfl); (focus (simp; done)); (first | (simp only [List.drop_zero, List.drop_succ_cons, List.take_succ_cons, List.take_zero]; rfl) | rfl)) | (go_at_call 16; refine (few_c _ _ _ _ (by omega) (by omega)).mono ?_; rintro e w2 ⟨rfl, rfl⟩; rw [HBL.out]) | (go_at_call 17; refine (apply_no _ _ _ bs _ _ _ hO (fun w' h => rd_snap HRD.out h (k := 1) rfl) HC.out).mono ?_; clear hO; rintro e w5 ⟨rfl, hO, hS5⟩) | (go_at_call 19; refine (undo_no _ _ _ bs _ _ _ hO (fun w' h => rd_snap HRD.out h (k := 1) rfl) HC.out).mono ?_; clear hO; rintro e w7 ⟨rfl, hO, hS7⟩) | (refine own_alloc rfl rfl zero_pat rfl hO ?_; clear hO; intro u w9 hO hS9) | (refine own_store_all (k := 0) rfl rfl rfl rfl sz_pat hO rfl rfl rfl rfl ?_; clear hO; intro w10 hO hS10; simp only [List.set_cons_zero] at hO))
    refine wp_plain_seq (Cls w10 (_)) 11 (cls_here hO) ?_
    simp only [List.take_succ_cons, List.take_zero]
    repeat (first
      | (apply wv_skip rfl; simp only [Act.put, List.setIfInBounds_toArray, List.set_cons_zero, List.set_cons_succ])
      | (apply wv_load1 rfl rfl rfl; (first | exact row_int | exact row_str | exact row_bool | exact row_u8 | exact row_bys | exact row_pats | exact row_err); (intro w h; (first | exact own_get 0 h.1 rfl | exact own_get 1 h.1 rfl | exact own_get 2 h.1 rfl | exact own_get 3 h.1 rfl | exact own_get 4 h.1 rfl | exact own_get 5 h.1 rfl | exact own_get 6 h.1 rfl | exact own_get 7 h.1 rfl)); (first | (simp only [List.getElem?_toArray, List.getElem?_cons_succ, List.getElem?_cons_zero]; rfl) | rfl); simp only [Act.put, List.setIfInBounds_toArray, List.set_cons_zero, List.set_cons_succ])
      | (apply wv_loadrow rfl rfl rfl; (first | exact row_pat); exact sz_pat; (intro w h; (first | exact own_get 0 h.1 rfl | exact own_get 1 h.1 rfl | exact own_get 2 h.1 rfl | exact own_get 3 h.1 rfl | exact own_get 4 h.1 rfl | exact own_get 5 h.1 rfl | exact own_get 6 h.1 rfl | exact own_get 7 h.1 rfl)); (focus (simp; done)); (first | (simp only [List.drop_zero, List.drop_succ_cons, List.take_succ_cons, List.take_zero]; rfl) | rfl); simp only [Act.put, List.setIfInBounds_toArray, List.set_cons_zero, List.set_cons_succ])
      | (apply wv_run rfl; (focus (intro w h; go_simp; first | done | rfl)); simp only [Act.put, List.setIfInBounds_toArray, List.set_cons_zero, List.set_cons_succ])
      | (apply wv_call rfl; (focus (intro w; go_simp; first | done | exact ⟨rfl, rfl⟩)); (focus (intro w h; apply cls_call h; first | exact live_c _ _ h.1)); simp only [Act.put, List.setIfInBounds_toArray, List.set_cons_zero, List.set_cons_succ]))
    refine wv_nil ?_
    simp only [List.drop_succ_cons, List.drop_zero]
    intro w11 ⟨hO11, hS11⟩
    clear hO
    go_wp2
    go_ret
    exact ⟨rfl, below_of (own_at hO11 (k := 2) rfl) (hS1.trans (hS5.trans (hS7.trans (hS9.trans (hS10.trans hS11)))))⟩
end Go.Proofs.Ytefohmjllcnnkaa.H
