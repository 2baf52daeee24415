/- PatchApplies: the walk. -/
import Derived.Test.YtefohmjllcnnkaaL1
import Derived.Test.YtefohmjllcnnkaaR4
set_option linter.unusedVariables false
set_option linter.unusedSimpArgs false
set_option maxRecDepth 100000
namespace Go.Proofs.Ytefohmjllcnnkaa.H
open Go.RowKit
theorem own_app_mid {w : World} {A : HP} {L : List HP} : True := trivial
set_option maxHeartbeats 1000000 in
theorem applies_c (w : World) (A : Option Addr) (n c : Nat) (l : List UInt8) (a0 a1 : Int) (s : ByteArray) (hl : n = l.length) (hr : Rd w 1 (.slice A n c) n (bcs l)) :
    Calls Try.prog 4 #[.slice A n c, .agg #[.int .i64 a0, .int .i64 a1, .string s]] w (fun e w' => e = .returned (.bool true) ∧ Below w.heap.size w w') := by
  have hmx := hr.max
  have hrd : Rd w 1 (.slice A (min n 40) c) (min n 40) (bcs (l.take 40)) := by
    have h := hr.low (k := min n 40) (c' := c) (by omega) (by omega) hmx.2
    rw [Nat.mul_one] at h
    have e : (bcs l).take (min n 40) = bcs (l.take 40) := by
      rw [hl, bcs, ← List.map_take, Nat.min_comm, ← List.take_eq_take_min]; rfl
    rwa [e] at h
  obtain ⟨bs, hbs⟩ : ∃ bs, bs = l.take 40 := ⟨_, rfl⟩
  have hbl : min n 40 = bs.length := by rw [hbs, List.length_take, hl]; omega
  rw [← hbs, hbl] at hrd
  have HRD := Lib.hid hrd
  have HBL := Lib.hid hbl
  have hb40 : bs.length ≤ 40 := by omega
  have hO : Own w [snap w] := own_snap
  clear hr hrd hbs hl hbl
  by_cases hc : bs.length = 32 ∧ rightB ⟨a0, a1, s⟩ = true
  · have HC := Lib.hid hc
    clear hc
    go_enter Try.func4, Try.ntmps4
    go_upto_region 7 with (first | (refine own_box_agg (x := .tmp 1) rfl rfl rfl hO ?_; clear hO; intro b w1 hO hS1) | (apply own_loadrow rfl rfl rfl; (first | exact row_pat); exact sz_pat; (first | exact own_get 0 hO rfl | exact own_get 1 hO rfl | exact own_get 2 hO rfl | exact own_get 3 hO rfl | exact own_get 4 hO rfl | exact own_get 5 hO rfl | exact own_get 6 hO rfl | exact own_get 7 hO rfl); (focus (simp; done)); (first | (simp only [List.drop_zero, List.drop_succ_cons, List.take_succ_cons, List.take_zero]; rfl) | rfl)) | (go_at_call 16; refine (few_c _ _ _ _ (by omega) (by omega)).mono ?_; rintro e w2 ⟨rfl, rfl⟩; rw [HBL.out]) | (refine own_lit0 rfl rfl Try.underlying28 sz_u8 hO ?_; clear hO; intro g0 w3 hO hS3) | (refine own_append (m := bs.length) (news := bcs bs) rfl rfl rfl rfl Try.underlying28 info_u8 rfl (by decide) hO ?_ (bcs_one bs) ?_ ?_ ?_; exact rd_snap HRD.out hO (k := 2) rfl; (unfold maxLen; omega); omega; clear hO; intro v1 w4 hO hS4 hv1; rw [Nat.zero_add, List.nil_append] at hO) | (go_at_call 17; refine (apply_ok _ _ _ bs _ _ _ hO (fun w' h => owns_rd h) HC.out.1 HC.out.2).mono ?_; clear hO; rintro e w5 ⟨g1, rfl, hO, hS5⟩) | (go_at_call 18; refine (rapply_ok _ _ _ bs _ _ _ hO (fun w' h => rd_snap HRD.out h (k := 3) rfl) HC.out.1 HC.out.2).mono ?_; clear hO; rintro e w6 ⟨v2, rfl, hO, hS6⟩) | (go_at_call 19; refine (undo_ok _ _ _ bs _ _ _ hO (fun w' h => owns_rd (own_at h (k := 2) rfl)) HC.out.1 HC.out.2).mono ?_; clear hO; rintro e w7 ⟨rfl, hO, hS7⟩) | (go_at_call 20; refine (rundo_ok _ _ _ bs _ _ _ hO (fun w' h => rd_snap HRD.out h (k := 5) rfl) HC.out.1 HC.out.2).mono ?_; clear hO; rintro e w8 ⟨rfl, hO, hS8⟩) | (refine own_alloc rfl rfl zero_pat rfl hO ?_; clear hO; intro u w9 hO hS9) | (refine own_store_all (k := 0) rfl rfl rfl rfl sz_pat hO rfl rfl rfl rfl ?_; clear hO; intro w10 hO hS10; simp only [List.set_cons_zero] at hO))
    have HN : Hid (32 = (app bs ⟨a0, a1, s⟩).length) := (app_length bs ⟨a0, a1, s⟩ HC.out.1 HC.out.2).symm
    refine wp_region_seq (Cls w10 (_)) 47 89 mixed (by kernel_rfl) rfl (cls_drew hO) ?_
    simp only [List.take_succ_cons, List.take_zero]
    repeat (first
      | (apply wv_skip rfl; simp only [Act.put, List.setIfInBounds_toArray, List.set_cons_zero, List.set_cons_succ])
      | (apply wv_load1 rfl rfl rfl; (first | exact row_int | exact row_str | exact row_bool | exact row_u8 | exact row_bys | exact row_pats | exact row_err); (intro w h; (first | exact own_get 0 h.1 rfl | exact own_get 1 h.1 rfl | exact own_get 2 h.1 rfl | exact own_get 3 h.1 rfl | exact own_get 4 h.1 rfl | exact own_get 5 h.1 rfl | exact own_get 6 h.1 rfl | exact own_get 7 h.1 rfl)); (first | (simp only [List.getElem?_toArray, List.getElem?_cons_succ, List.getElem?_cons_zero]; rfl) | rfl); simp only [Act.put, List.setIfInBounds_toArray, List.set_cons_zero, List.set_cons_succ])
      | (apply wv_loadrow rfl rfl rfl; (first | exact row_pat); exact sz_pat; (intro w h; (first | exact own_get 0 h.1 rfl | exact own_get 1 h.1 rfl | exact own_get 2 h.1 rfl | exact own_get 3 h.1 rfl | exact own_get 4 h.1 rfl | exact own_get 5 h.1 rfl | exact own_get 6 h.1 rfl | exact own_get 7 h.1 rfl)); (focus (simp; done)); (first | (simp only [List.drop_zero, List.drop_succ_cons, List.take_succ_cons, List.take_zero]; rfl) | rfl); simp only [Act.put, List.setIfInBounds_toArray, List.set_cons_zero, List.set_cons_succ])
      | (refine wv_string (n := 32) (bs := app bs ⟨a0, a1, s⟩) rfl rfl rfl Try.underlying28 Try.underlying5 Try.underlying9 HN.out (fun w h => rd_block (own_get 3 h.1 rfl) (List.take_of_length_le (by simp [bcs_length, ← HN.out])) (by simp [bcs_length, ← HN.out]) (by simp) (by simp)) ?_; simp only [Act.put, List.setIfInBounds_toArray, List.set_cons_zero, List.set_cons_succ])
      | (refine wv_string (n := 32) (bs := app bs ⟨a0, a1, s⟩) rfl rfl rfl Try.underlying28 Try.underlying5 Try.underlying9 HN.out (fun w h => owns_rd (own_at h.1 (k := 2) rfl)) ?_; simp only [Act.put, List.setIfInBounds_toArray, List.set_cons_zero, List.set_cons_succ])
      | (refine wv_string (n := bs.length) (bs := bs) rfl rfl rfl Try.underlying28 Try.underlying5 Try.underlying9 rfl (fun w h => owns_rd (own_at h.1 (k := 4) rfl)) ?_; simp only [Act.put, List.setIfInBounds_toArray, List.set_cons_zero, List.set_cons_succ])
      | (refine wv_string (n := bs.length) (bs := bs) rfl rfl rfl Try.underlying28 Try.underlying5 Try.underlying9 rfl (fun w h => rd_snap HRD.out h.1 (k := 6) rfl) ?_; simp only [Act.put, List.setIfInBounds_toArray, List.set_cons_zero, List.set_cons_succ])
      | (apply wv_run rfl; (focus (intro w h; go_simp; first | done | rfl)); simp only [Act.put, List.setIfInBounds_toArray, List.set_cons_zero, List.set_cons_succ])
      | (apply wv_call rfl; (focus (intro w; go_simp; first | done | exact ⟨rfl, rfl⟩)); (focus (intro w h; apply cls_call h; first | exact live_c _ _ h.1 | exact idle_c _ _ _ bs _ _ _ h.1 (fun w' hh => owns_rd (own_at hh (k := 4) rfl)) | exact ridle_c _ _ _ bs _ _ _ h.1 (fun w' hh => rd_snap HRD.out hh (k := 6) rfl) | exact right_v _ _ _ _ _ HC.out.2 h.1 | exact rright_v _ _ _ _ _ HC.out.2 h.1)); simp only [Act.put, List.setIfInBounds_toArray, List.set_cons_zero, List.set_cons_succ]))
    refine wv_nil ?_
    simp only [List.drop_succ_cons, List.drop_zero]
    intro w11 ⟨hO11, hS11⟩
    clear hO
    go_wp2
    go_ret
    exact ⟨rfl, below_of (own_at hO11 (k := 6) rfl) (hS1.trans (hS3.trans (hS4.trans (hS5.trans (hS6.trans (hS7.trans (Same.trans ‹Same w7 _› (Same.trans ‹_› (hS8.trans (hS9.trans (hS10.trans hS11)))))))))))⟩
  · have hno : bs.length = 32 → rightB ⟨a0, a1, s⟩ = false := fun h => by
      cases h2 : rightB ⟨a0, a1, s⟩ with
      | false => rfl
      | true => exact absurd ⟨h, h2⟩ hc
    have HC := Lib.hid hno
    clear hc hno
    go_enter Try.func4, Try.ntmps4
    go_upto_region 7 with (first | (refine own_box_agg (x := .tmp 1) rfl rfl rfl hO ?_; clear hO; intro b w1 hO hS1) | (apply own_loadrow rfl rfl rfl; (first | exact row_pat); exact sz_pat; (first | exact own_get 0 hO rfl | exact own_get 1 hO rfl | exact own_get 2 hO rfl | exact own_get 3 hO rfl | exact own_get 4 hO rfl | exact own_get 5 hO rfl | exact own_get 6 hO rfl | exact own_get 7 hO rfl); (focus (simp; done)); (first | (simp only [List.drop_zero, List.drop_succ_cons, List.take_succ_cons, List.take_zero]; rfl) | rfl)) | (go_at_call 16; refine (few_c _ _ _ _ (by omega) (by omega)).mono ?_; rintro e w2 ⟨rfl, rfl⟩; rw [HBL.out]) | (refine own_lit0 rfl rfl Try.underlying28 sz_u8 hO ?_; clear hO; intro g0 w3 hO hS3) | (refine own_append (m := bs.length) (news := bcs bs) rfl rfl rfl rfl Try.underlying28 info_u8 rfl (by decide) hO ?_ (bcs_one bs) ?_ ?_ ?_; exact rd_snap HRD.out hO (k := 2) rfl; (unfold maxLen; omega); omega; clear hO; intro v1 w4 hO hS4 hv1; rw [Nat.zero_add, List.nil_append] at hO) | (go_at_call 17; refine (apply_no _ _ _ bs _ _ _ hO (fun w' h => owns_rd h) HC.out).mono ?_; clear hO; rintro e w5 ⟨rfl, hO, hS5⟩) | (go_at_call 18; refine (rapply_no _ _ _ bs _ _ _ hO (fun w' h => rd_snap HRD.out h (k := 2) rfl) HC.out).mono ?_; clear hO; rintro e w6 ⟨rfl, hO, hS6⟩) | (go_at_call 19; refine (undo_no _ _ _ bs _ _ _ hO (fun w' h => owns_rd h) HC.out).mono ?_; clear hO; rintro e w7 ⟨rfl, hO, hS7⟩) | (go_at_call 20; refine (rundo_no _ _ _ bs _ _ _ hO (fun w' h => rd_snap HRD.out h (k := 3) rfl) HC.out).mono ?_; clear hO; rintro e w8 ⟨rfl, hO, hS8⟩) | (refine own_alloc rfl rfl zero_pat rfl hO ?_; clear hO; intro u w9 hO hS9) | (refine own_store_all (k := 0) rfl rfl rfl rfl sz_pat hO rfl rfl rfl rfl ?_; clear hO; intro w10 hO hS10; simp only [List.set_cons_zero] at hO))
    refine wp_region_seq (Cls w10 (_)) 47 89 mixed (by kernel_rfl) rfl (cls_drew hO) ?_
    simp only [List.take_succ_cons, List.take_zero]
    repeat (first
      | (apply wv_skip rfl; simp only [Act.put, List.setIfInBounds_toArray, List.set_cons_zero, List.set_cons_succ])
      | (apply wv_load1 rfl rfl rfl; (first | exact row_int | exact row_str | exact row_bool | exact row_u8 | exact row_bys | exact row_pats | exact row_err); (intro w h; (first | exact own_get 0 h.1 rfl | exact own_get 1 h.1 rfl | exact own_get 2 h.1 rfl | exact own_get 3 h.1 rfl | exact own_get 4 h.1 rfl | exact own_get 5 h.1 rfl | exact own_get 6 h.1 rfl | exact own_get 7 h.1 rfl)); (first | (simp only [List.getElem?_toArray, List.getElem?_cons_succ, List.getElem?_cons_zero]; rfl) | rfl); simp only [Act.put, List.setIfInBounds_toArray, List.set_cons_zero, List.set_cons_succ])
      | (apply wv_loadrow rfl rfl rfl; (first | exact row_pat); exact sz_pat; (intro w h; (first | exact own_get 0 h.1 rfl | exact own_get 1 h.1 rfl | exact own_get 2 h.1 rfl | exact own_get 3 h.1 rfl | exact own_get 4 h.1 rfl | exact own_get 5 h.1 rfl | exact own_get 6 h.1 rfl | exact own_get 7 h.1 rfl)); (focus (simp; done)); (first | (simp only [List.drop_zero, List.drop_succ_cons, List.take_succ_cons, List.take_zero]; rfl) | rfl); simp only [Act.put, List.setIfInBounds_toArray, List.set_cons_zero, List.set_cons_succ])
      | (refine wv_string (n := 0) (bs := []) rfl rfl rfl Try.underlying28 Try.underlying5 Try.underlying9 rfl (fun w h => rd_nil _ _) ?_; simp only [Act.put, List.setIfInBounds_toArray, List.set_cons_zero, List.set_cons_succ])
      | (refine wv_string (n := bs.length) (bs := bs) rfl rfl rfl Try.underlying28 Try.underlying5 Try.underlying9 rfl (fun w h => owns_rd (own_at h.1 (k := 2) rfl)) ?_; simp only [Act.put, List.setIfInBounds_toArray, List.set_cons_zero, List.set_cons_succ])
      | (refine wv_string (n := bs.length) (bs := bs) rfl rfl rfl Try.underlying28 Try.underlying5 Try.underlying9 rfl (fun w h => rd_snap HRD.out h.1 (k := 4) rfl) ?_; simp only [Act.put, List.setIfInBounds_toArray, List.set_cons_zero, List.set_cons_succ])
      | (apply wv_run rfl; (focus (intro w h; go_simp; first | done | rfl)); simp only [Act.put, List.setIfInBounds_toArray, List.set_cons_zero, List.set_cons_succ])
      | (apply wv_call rfl; (focus (intro w; go_simp; first | done | exact ⟨rfl, rfl⟩)); (focus (intro w h; apply cls_call h; first | exact live_c _ _ h.1 | exact idle_c _ _ _ bs _ _ _ h.1 (fun w' hh => owns_rd (own_at hh (k := 2) rfl)) | exact ridle_c _ _ _ bs _ _ _ h.1 (fun w' hh => rd_snap HRD.out hh (k := 4) rfl) | exact right_v _ _ _ _ _ rfl h.1 | exact rright_v _ _ _ _ _ rfl h.1)); simp only [Act.put, List.setIfInBounds_toArray, List.set_cons_zero, List.set_cons_succ]))
    refine wv_nil ?_
    simp only [List.drop_succ_cons, List.drop_zero]
    intro w11 ⟨hO11, hS11⟩
    clear hO
    go_wp2
    go_ret
    exact ⟨rfl, below_of (own_at hO11 (k := 4) rfl) (hS1.trans (hS3.trans (hS4.trans (hS5.trans (hS6.trans (hS7.trans (Same.trans ‹Same w7 _› (Same.trans ‹_› (hS8.trans (hS9.trans (hS10.trans hS11)))))))))))⟩
end Go.Proofs.Ytefohmjllcnnkaa.H
