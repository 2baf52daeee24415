/- PatchTwo: the walk. -/
import Derived.Test.YtefohmjllcnnkaaL5
import Derived.Test.YtefohmjllcnnkaaM3
import Derived.Test.YtefohmjllcnnkaaP8
set_option linter.unusedVariables false
set_option linter.unusedSimpArgs false
set_option maxRecDepth 100000
namespace Go.Proofs.Ytefohmjllcnnkaa.H
open Go.RowKit
theorem join_v (w : World) (L : List HP) (a0 a1 b0 b1 m0 m1 : Int) (s t ms : ByteArray) (hO : Own w L) (hj : joinB ⟨a0, a1, s⟩ ⟨b0, b1, t⟩ = true) (hm : joinM ⟨a0, a1, s⟩ ⟨b0, b1, t⟩ = ⟨m0, m1, ms⟩) :
    Calls Try.prog 11 #[.agg #[.int .i64 a0, .int .i64 a1, .string s], .agg #[.int .i64 b0, .int .i64 b1, .string t]] w (Ret w (.tuple #[.agg #[.int .i64 m0, .int .i64 m1, .string ms], .bool true]) L) := by
  have h := join_ok w L a0 a1 b0 b1 s t hO hj
  rw [hm] at h
  exact h
set_option maxHeartbeats 1000000 in
theorem two_c (w : World) (A : Option Addr) (n c : Nat) (l : List UInt8) (a0 a1 b0 b1 : Int) (s t : ByteArray) (hl : n = l.length) (hr : Rd w 1 (.slice A n c) n (bcs l)) :
    Calls Try.prog 7 #[.slice A n c, .agg #[.int .i64 a0, .int .i64 a1, .string s], .agg #[.int .i64 b0, .int .i64 b1, .string t]] w (fun e w' => e = .returned (.bool true) ∧ Below w.heap.size w w') := by
  subst hl
  have HRD := Lib.hid hr
  have hO : Own w [snap w] := own_snap
  clear hr
  by_cases hj : joinB ⟨a0, a1, s⟩ ⟨b0, b1, t⟩ = true
  · have hJ := joins_iff.1 hj
    obtain ⟨m0, m1, ms, hm⟩ : ∃ m0 m1 ms, joinM ⟨a0, a1, s⟩ ⟨b0, b1, t⟩ = Pat.mk m0 m1 ms := ⟨_, _, _, rfl⟩
    have HMR : Hid (rightB ⟨m0, m1, ms⟩ = true) := by
      have h := joinM_right hJ
      rw [hm] at h
      exact h
    have HMA : Hid (∀ xs : List UInt8, xs.length = 32 → app xs ⟨m0, m1, ms⟩ = appAll xs [⟨a0, a1, s⟩, ⟨b0, b1, t⟩]) := fun xs hx => by
      have h := joinM_app xs hJ hx
      rw [hm] at h
      exact h
    have HALL : Hid (∀ p ∈ [Pat.mk a0 a1 s, Pat.mk b0 b1 t], rightB p = true) := by
      intro p hp
      simp at hp
      rcases hp with rfl | rfl
      · exact hJ.hp
      · exact hJ.hq
    have HJ := Lib.hid hj
    have HM := Lib.hid hm
    clear hj hJ hm
    go_enter Try.func7, Try.ntmps7
    go_upto_region 5 with (first | (refine own_box_agg (x := .tmp 1) rfl rfl rfl hO ?_; clear hO; intro b w1 hO hS1) | (refine own_box_agg (x := .tmp 2) rfl rfl rfl hO ?_; clear hO; intro b' w2 hO hS2) | (go_at_call 28; refine (full_c _ _ _ l hO (fun w' h => rd_snap HRD.out h (k := 2) rfl)).mono ?_; clear hO; rintro e w3 ⟨g, xs, hxs, rfl, hO, hS3⟩) | (apply own_loadrow rfl rfl rfl; (first | exact row_pat); exact sz_pat; (first | exact own_get 0 hO rfl | exact own_get 1 hO rfl | exact own_get 2 hO rfl | exact own_get 3 hO rfl | exact own_get 4 hO rfl | exact own_get 5 hO rfl | exact own_get 6 hO rfl | exact own_get 7 hO rfl); (focus (simp; done)); (first | (simp only [List.drop_zero, List.drop_succ_cons, List.take_succ_cons, List.take_zero]; rfl) | rfl)) | (go_at_call 11; refine (join_v _ _ _ _ _ _ _ _ _ _ _ hO HJ.out HM.out).mono ?_; clear hO; rintro e w4 ⟨rfl, hO, hS4⟩) | (refine own_alloc rfl rfl zero_pat rfl hO ?_; clear hO; intro u w5 hO hS5) | (refine own_store_all (k := 0) rfl rfl rfl rfl sz_pat hO rfl rfl rfl rfl ?_; clear hO; intro w6 hO hS6; simp only [List.set_cons_zero] at hO))
    have HX : Hid (32 = xs.length) := hxs.symm
    have HE : Hid (app xs ⟨m0, m1, ms⟩ = appAll xs [⟨a0, a1, s⟩, ⟨b0, b1, t⟩]) := HMA.out xs hxs
    have HN : Hid (32 = (appAll xs [Pat.mk a0 a1 s, Pat.mk b0 b1 t]).length) := (appAll_length _ _ hxs HALL.out).symm
    clear hxs
    go_upto_region 7 with (first | (apply own_loadrow rfl rfl rfl; (first | exact row_pat); exact sz_pat; (first | exact own_get 0 hO rfl | exact own_get 1 hO rfl | exact own_get 2 hO rfl | exact own_get 3 hO rfl | exact own_get 4 hO rfl | exact own_get 5 hO rfl | exact own_get 6 hO rfl | exact own_get 7 hO rfl); (focus (simp; done)); (first | (simp only [List.drop_zero, List.drop_succ_cons, List.take_succ_cons, List.take_zero]; rfl) | rfl)) | (go_at_call 17; refine (apply_ok _ _ _ xs _ _ _ hO (fun w' h => rdB_block HX.out (own_get 1 h rfl) (Nat.le_refl 32) (by decide)) HX.out.symm HMR.out).mono ?_; rw [HE.out]; clear hO; rintro e w7 ⟨g1, rfl, hO, hS7⟩) | (go_at_call 25; have hO8 := own_alloc_new hO (.cells #[.int .i64 a0, .int .i64 a1, .string s, .int .i64 b0, .int .i64 b1, .string t] 23); have hS8 : Same w7 (w7.alloc (.cells #[.int .i64 a0, .int .i64 a1, .string s, .int .i64 b0, .int .i64 b1, .string t] 23)) := Same.alloc _ _; clear hO; refine (all_yes _ _ _ _ xs [⟨a0, a1, s⟩, ⟨b0, b1, t⟩] hO8 (fun w' h => rdB_block HX.out (own_get 3 h rfl) (Nat.le_refl 32) (by decide)) (fun w' h => rdP_two (own_get 0 h rfl)) HX.out.symm HALL.out).mono ?_; clear hO8; rintro e w9 ⟨g2, rfl, hO, hS9⟩))
    refine wp_plain_seq (Cls w9 (_)) 20 (cls_here hO) ?_
    simp only [List.take_succ_cons, List.take_zero]
    repeat (first
      | (apply wv_skip rfl; simp only [Act.put, List.setIfInBounds_toArray, List.set_cons_zero, List.set_cons_succ])
      | (apply wv_load1 rfl rfl rfl; (first | exact row_int | exact row_str | exact row_bool | exact row_u8 | exact row_bys | exact row_pats | exact row_err); (intro w h; (first | exact own_get 0 h.1 rfl | exact own_get 1 h.1 rfl | exact own_get 2 h.1 rfl | exact own_get 3 h.1 rfl | exact own_get 4 h.1 rfl | exact own_get 5 h.1 rfl | exact own_get 6 h.1 rfl | exact own_get 7 h.1 rfl)); (first | (simp only [List.getElem?_toArray, List.getElem?_cons_succ, List.getElem?_cons_zero]; rfl) | rfl); simp only [Act.put, List.setIfInBounds_toArray, List.set_cons_zero, List.set_cons_succ])
      | (apply wv_loadrow rfl rfl rfl; (first | exact row_pat); exact sz_pat; (intro w h; (first | exact own_get 0 h.1 rfl | exact own_get 1 h.1 rfl | exact own_get 2 h.1 rfl | exact own_get 3 h.1 rfl | exact own_get 4 h.1 rfl | exact own_get 5 h.1 rfl | exact own_get 6 h.1 rfl | exact own_get 7 h.1 rfl)); (focus (simp; done)); (first | (simp only [List.drop_zero, List.drop_succ_cons, List.take_succ_cons, List.take_zero]; rfl) | rfl); simp only [Act.put, List.setIfInBounds_toArray, List.set_cons_zero, List.set_cons_succ])
      | (refine wv_string (n := 32) (bs := appAll xs [⟨a0, a1, s⟩, ⟨b0, b1, t⟩]) rfl rfl rfl Try.underlying28 Try.underlying5 Try.underlying9 HN.out (fun w h => rdN_block HN.out (own_get 2 h.1 rfl) (by simp) (by simp)) ?_; simp only [Act.put, List.setIfInBounds_toArray, List.set_cons_zero, List.set_cons_succ])
      | (refine wv_string (n := 32) (bs := appAll xs [⟨a0, a1, s⟩, ⟨b0, b1, t⟩]) rfl rfl rfl Try.underlying28 Try.underlying5 Try.underlying9 HN.out (fun w h => rdN_block HN.out (own_get 0 h.1 rfl) (by simp) (by simp)) ?_; simp only [Act.put, List.setIfInBounds_toArray, List.set_cons_zero, List.set_cons_succ])
      | (apply wv_run rfl; (focus (intro w h; go_simp; first | done | rfl)); simp only [Act.put, List.setIfInBounds_toArray, List.set_cons_zero, List.set_cons_succ])
      | (apply wv_call rfl; (focus (intro w; go_simp; first | done | exact ⟨rfl, rfl⟩)); (focus (intro w h; apply cls_call h; first | exact live_c _ _ h.1 | exact right_v _ _ _ _ _ HMR.out h.1)); simp only [Act.put, List.setIfInBounds_toArray, List.set_cons_zero, List.set_cons_succ]))
    refine wv_nil ?_
    simp only [List.drop_succ_cons, List.drop_zero]
    intro w12 ⟨hO12, hS12⟩
    clear hO
    go_wp2
    go_ret
    exact ⟨rfl, below_of (own_at hO12 (k := 7) rfl) (hS1.trans (hS2.trans (hS3.trans (hS4.trans (hS5.trans (hS6.trans (hS7.trans (hS8.trans (hS9.trans hS12)))))))))⟩
  · have hj : joinB ⟨a0, a1, s⟩ ⟨b0, b1, t⟩ = false := by simpa using hj
    have HJ := Lib.hid hj
    clear hj
    go_enter Try.func7, Try.ntmps7
    go_wp2_with (first | (refine own_box_agg (x := .tmp 1) rfl rfl rfl hO ?_; clear hO; intro b w1 hO hS1) | (refine own_box_agg (x := .tmp 2) rfl rfl rfl hO ?_; clear hO; intro b' w2 hO hS2) | (go_at_call 28; refine (full_c _ _ _ l hO (fun w' h => rd_snap HRD.out h (k := 2) rfl)).mono ?_; clear hO; rintro e w3 ⟨g, xs, hxs, rfl, hO, hS3⟩) | (apply own_loadrow rfl rfl rfl; (first | exact row_pat); exact sz_pat; (first | exact own_get 0 hO rfl | exact own_get 1 hO rfl | exact own_get 2 hO rfl | exact own_get 3 hO rfl | exact own_get 4 hO rfl | exact own_get 5 hO rfl | exact own_get 6 hO rfl | exact own_get 7 hO rfl); (focus (simp; done)); (first | (simp only [List.drop_zero, List.drop_succ_cons, List.take_succ_cons, List.take_zero]; rfl) | rfl)) | (go_at_call 11; refine (join_no _ _ _ _ _ _ _ _ hO HJ.out).mono ?_; clear hO; rintro e w4 ⟨rfl, hO, hS4⟩) | (refine own_alloc rfl rfl zero_pat rfl hO ?_; clear hO; intro u w5 hO hS5) | (refine own_store_all (k := 0) rfl rfl rfl rfl sz_pat hO rfl rfl rfl rfl ?_; clear hO; intro w6 hO hS6; simp only [List.set_cons_zero] at hO) | (go_at_call 13; refine (live_c _ _ hO).mono ?_; clear hO; rintro e w7 ⟨rfl, hO, hS7⟩))
    go_ret
    exact ⟨rfl, below_of (own_at hO (k := 4) rfl) (hS1.trans (hS2.trans (hS3.trans (hS4.trans (hS5.trans (hS6.trans hS7))))))⟩
end Go.Proofs.Ytefohmjllcnnkaa.H
