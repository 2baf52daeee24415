/- PatchJoins: the walk. -/
import Derived.Test.YtefohmjllcnnkaaL6
import Derived.Test.YtefohmjllcnnkaaR8
set_option linter.unusedVariables false
set_option linter.unusedSimpArgs false
set_option maxRecDepth 100000
namespace Go.Proofs.Ytefohmjllcnnkaa.H
open Go.RowKit
/-- What both Joins hand back. -/
def joinV (p q : Pat) : Value := if joinB p q = true then .tuple #[.agg (joinM p q).cells.toArray, .bool true] else .tuple #[.agg #[.int .i64 0, .int .i64 0, .string ⟨#[]⟩], .bool false]
set_option maxHeartbeats 1600000 in
theorem rjoin_rest (w : World) (L : List HP) (a0 a1 b0 b1 : Int) (s t : ByteArray) (hO : Own w L) (hn : ¬ (rightB ⟨a0, a1, s⟩ = true ∧ rightB ⟨b0, b1, t⟩ = true ∧ a0 = b0)) :
    Calls Try.prog 12 #[.agg #[.int .i64 a0, .int .i64 a1, .string s], .agg #[.int .i64 b0, .int .i64 b1, .string t]] w (Ret w (.tuple #[.agg #[.int .i64 0, .int .i64 0, .string ⟨#[]⟩], .bool false]) L) := by
  have key : ∀ (r1 r2 : Bool), rightB ⟨a0, a1, s⟩ = r1 → rightB ⟨b0, b1, t⟩ = r2 → (r1 = false ∨ (r1 = true ∧ r2 = false) ∨ (r1 = true ∧ r2 = true ∧ (a0 == b0) = false ∧ (a0 != b0) = true)) →
      Calls Try.prog 12 #[.agg #[.int .i64 a0, .int .i64 a1, .string s], .agg #[.int .i64 b0, .int .i64 b1, .string t]] w (Ret w (.tuple #[.agg #[.int .i64 0, .int .i64 0, .string ⟨#[]⟩], .bool false]) L) := by
    intro r1 r2 hR hR2 hc
    have HR := Lib.hid hR
    have HR2 := Lib.hid hR2
    clear hR hR2 hn
    rcases hc with rfl | ⟨rfl, rfl⟩ | ⟨rfl, rfl, h0, h0'⟩
    all_goals
      go_enter Try.func12, Try.ntmps12
      go_wp2_with (first | (refine own_box_agg (x := .tmp 0) rfl rfl rfl hO ?_; clear hO; intro b w1 hO hS1) | (refine own_box_agg (x := .tmp 1) rfl rfl rfl hO ?_; clear hO; intro b' w2 hO hS2) | (refine own_alloc rfl rfl zero_pat rfl hO ?_; clear hO; intro g0 w3 hO hS3) | (apply own_loadrow rfl rfl rfl; (first | exact row_pat); exact sz_pat; (first | exact own_get 0 hO rfl | exact own_get 1 hO rfl | exact own_get 2 hO rfl | exact own_get 3 hO rfl | exact own_get 4 hO rfl | exact own_get 5 hO rfl | exact own_get 6 hO rfl | exact own_get 7 hO rfl); (focus (simp; done)); (first | (simp only [List.drop_zero, List.drop_succ_cons, List.take_succ_cons, List.take_zero]; rfl) | rfl)) | (apply own_load1 rfl rfl rfl; (first | exact row_int | exact row_str | exact row_bool | exact row_u8 | exact row_bys | exact row_pats | exact row_err); (first | exact own_get 0 hO rfl | exact own_get 1 hO rfl | exact own_get 2 hO rfl | exact own_get 3 hO rfl | exact own_get 4 hO rfl | exact own_get 5 hO rfl | exact own_get 6 hO rfl | exact own_get 7 hO rfl); (first | (simp only [List.getElem?_toArray, List.getElem?_cons_succ, List.getElem?_cons_zero]; rfl) | rfl)) | (go_at_call 24; with_reducible refine (rright_v _ _ a0 a1 s HR.out hO).mono ?_; clear hO; rintro e w4 ⟨rfl, hO, hS4⟩) | (go_at_call 24; with_reducible refine (rright_v _ _ b0 b1 t HR2.out hO).mono ?_; clear hO; rintro e w5 ⟨rfl, hO, hS5⟩) | (refine own_store_all (k := 0) rfl rfl rfl rfl sz_pat hO rfl rfl rfl rfl ?_; clear hO; intro w8 hO hS8; simp only [List.set_cons_zero] at hO))
      refine bodyPost_ret (results_cell_tmp rfl rfl (own_get 0 hO rfl) row_pat sz_pat) rfl ?_
      first | exact ⟨rfl, own_drop (own_drop (own_drop hO)), hS1.trans (hS2.trans (hS3.trans (hS4.trans (hS5.trans hS8))))⟩ | exact ⟨rfl, own_drop (own_drop (own_drop hO)), hS1.trans (hS2.trans (hS3.trans (hS4.trans hS8)))⟩
  refine key _ _ rfl rfl ?_
  cases h1 : rightB ⟨a0, a1, s⟩ with
  | false => exact .inl rfl
  | true =>
    cases h2 : rightB ⟨b0, b1, t⟩ with
    | false => exact .inr (.inl ⟨rfl, rfl⟩)
    | true =>
      have h3 : ¬ a0 = b0 := fun h => hn ⟨h1, h2, h⟩
      exact .inr (.inr ⟨rfl, rfl, by simpa using h3, by simpa using h3⟩)
theorem rjoin_c (w : World) (L : List HP) (a0 a1 b0 b1 : Int) (s t : ByteArray) (hO : Own w L) :
    Calls Try.prog 12 #[.agg #[.int .i64 a0, .int .i64 a1, .string s], .agg #[.int .i64 b0, .int .i64 b1, .string t]] w (Ret w (joinV ⟨a0, a1, s⟩ ⟨b0, b1, t⟩) L) := by
  by_cases hall : rightB ⟨a0, a1, s⟩ = true ∧ rightB ⟨b0, b1, t⟩ = true ∧ a0 = b0
  · obtain ⟨hR, hR2, rfl⟩ := hall
    by_cases hj : joinB ⟨a0, a1, s⟩ ⟨a0, b1, t⟩ = true
    · have hJ := joins_iff.1 hj
      refine (rjoin_ok w L a0 a1 b1 s t _ _ _ hO hR hR2 (runs_yes hJ)).mono fun e w' h => ?_
      rw [RJoinPost, if_pos rfl] at h
      rw [joinV, if_pos hj]
      obtain ⟨p1, p2, p3, p4, p5, p6⟩ := rightB_iff.1 hR
      obtain ⟨q1, q2, q3, q4, q5, q6⟩ := rightB_iff.1 hR2
      simp only at p1 p2 p3 p4 p5 p6 q1 q2 q3 q4 q5 q6
      have e1 : (((min a1 b1).toNat : Nat) : Int) = min a1 b1 := by omega
      simp only [e1, datK] at h
      exact h
    · rw [joinV, if_neg hj]
      have hn : ¬ (a1 ≤ b1 + t.size ∧ b1 ≤ a1 + s.size) := fun h => hj (joins_iff.2 ⟨hR, hR2, rfl, h.1, h.2⟩)
      have hg := runs_no hR hR2 hn
      obtain ⟨p1, p2, p3, p4, p5, p6⟩ := rightB_iff.1 hR
      obtain ⟨q1, q2, q3, q4, q5, q6⟩ := rightB_iff.1 hR2
      simp only at p1 p2 p3 p4 p5 p6 q1 q2 q3 q4 q5 q6
      refine (rjoin_ok w L a0 a1 b1 s t _ _ _ hO hR hR2 hg).mono fun e w' h => ?_
      rw [RJoinPost, if_neg (by simp only; omega)] at h
      exact h
  · have hj : ¬ joinB ⟨a0, a1, s⟩ ⟨b0, b1, t⟩ = true := fun h => by
      have hJ := joins_iff.1 h
      exact hall ⟨hJ.hp, hJ.hq, hJ.hb⟩
    rw [joinV, if_neg hj]
    exact rjoin_rest w L a0 a1 b0 b1 s t hO hall
theorem join_c (w : World) (L : List HP) (a0 a1 b0 b1 : Int) (s t : ByteArray) (hO : Own w L) :
    Calls Try.prog 11 #[.agg #[.int .i64 a0, .int .i64 a1, .string s], .agg #[.int .i64 b0, .int .i64 b1, .string t]] w (Ret w (joinV ⟨a0, a1, s⟩ ⟨b0, b1, t⟩) L) := by
  by_cases hj : joinB ⟨a0, a1, s⟩ ⟨b0, b1, t⟩ = true
  · rw [joinV, if_pos hj]
    exact join_ok w L a0 a1 b0 b1 s t hO hj
  · rw [joinV, if_neg hj]
    exact join_no w L a0 a1 b0 b1 s t hO (by simpa using hj)
theorem joinV_form (p q : Pat) : ∃ m0 m1 ms r, joinV p q = .tuple #[.agg #[.int .i64 m0, .int .i64 m1, .string ms], .bool r] := by
  unfold joinV
  split
  · exact ⟨_, _, _, _, rfl⟩
  · exact ⟨_, _, _, _, rfl⟩
set_option maxHeartbeats 1000000 in
theorem joinslaw_c (w : World) (a0 a1 b0 b1 : Int) (s t : ByteArray) :
    Calls Try.prog 3 #[.agg #[.int .i64 a0, .int .i64 a1, .string s], .agg #[.int .i64 b0, .int .i64 b1, .string t]] w (fun e w' => e = .returned (.bool true) ∧ Below w.heap.size w w') := by
  obtain ⟨m0, m1, ms, r, hV⟩ := joinV_form ⟨a0, a1, s⟩ ⟨b0, b1, t⟩
  obtain ⟨ov, hov⟩ : ∃ ov, overB ⟨a0, a1, s⟩ ⟨b0, b1, t⟩ = ov := ⟨_, rfl⟩
  have hov2 : overB ⟨b0, b1, t⟩ ⟨a0, a1, s⟩ = ov := by rw [over_sym]; exact hov
  have HV := Lib.hid hV
  have HOV := Lib.hid hov
  have HOV2 := Lib.hid hov2
  have hO : Own w [snap w] := own_snap
  clear hV hov hov2
  go_enter Try.func3, Try.ntmps3
  go_upto_region 3 with (first | (refine own_box_agg (x := .tmp 0) rfl rfl rfl hO ?_; clear hO; intro b w1 hO hS1) | (refine own_box_agg (x := .tmp 1) rfl rfl rfl hO ?_; clear hO; intro b' w2 hO hS2) | (apply own_loadrow rfl rfl rfl; (first | exact row_pat); exact sz_pat; (first | exact own_get 0 hO rfl | exact own_get 1 hO rfl | exact own_get 2 hO rfl | exact own_get 3 hO rfl | exact own_get 4 hO rfl | exact own_get 5 hO rfl | exact own_get 6 hO rfl | exact own_get 7 hO rfl); (focus (simp; done)); (first | (simp only [List.drop_zero, List.drop_succ_cons, List.take_succ_cons, List.take_zero]; rfl) | rfl)) | (go_at_call 11; refine (join_c _ _ _ _ _ _ _ _ hO).mono ?_; rw [HV.out]; clear hO; rintro e w3 ⟨rfl, hO, hS3⟩) | (go_at_call 12; refine (rjoin_c _ _ _ _ _ _ _ _ hO).mono ?_; rw [HV.out]; clear hO; rintro e w4 ⟨rfl, hO, hS4⟩) | (refine own_alloc rfl rfl zero_pat rfl hO ?_; clear hO; intro u w5 hO hS5) | (refine own_store_all (k := 0) rfl rfl rfl rfl sz_pat hO rfl rfl rfl rfl ?_; clear hO; intro w6 hO hS6; simp only [List.set_cons_zero] at hO))
  refine wp_region_seq (Cls w6 (_)) 30 50 mixed (by kernel_rfl) rfl (cls_drew hO) ?_
  simp only [List.take_succ_cons, List.take_zero]
  repeat (first
    | (apply wv_skip rfl; simp only [Act.put, List.setIfInBounds_toArray, List.set_cons_zero, List.set_cons_succ])
    | (apply wv_load1 rfl rfl rfl; (first | exact row_int | exact row_str | exact row_bool | exact row_u8 | exact row_bys | exact row_pats | exact row_err); (intro w h; (first | exact own_get 0 h.1 rfl | exact own_get 1 h.1 rfl | exact own_get 2 h.1 rfl | exact own_get 3 h.1 rfl | exact own_get 4 h.1 rfl | exact own_get 5 h.1 rfl | exact own_get 6 h.1 rfl | exact own_get 7 h.1 rfl)); (first | (simp only [List.getElem?_toArray, List.getElem?_cons_succ, List.getElem?_cons_zero]; rfl) | rfl); simp only [Act.put, List.setIfInBounds_toArray, List.set_cons_zero, List.set_cons_succ])
    | (apply wv_loadrow rfl rfl rfl; (first | exact row_pat); exact sz_pat; (intro w h; (first | exact own_get 0 h.1 rfl | exact own_get 1 h.1 rfl | exact own_get 2 h.1 rfl | exact own_get 3 h.1 rfl | exact own_get 4 h.1 rfl | exact own_get 5 h.1 rfl | exact own_get 6 h.1 rfl | exact own_get 7 h.1 rfl)); (focus (simp; done)); (first | (simp only [List.drop_zero, List.drop_succ_cons, List.take_succ_cons, List.take_zero]; rfl) | rfl); simp only [Act.put, List.setIfInBounds_toArray, List.set_cons_zero, List.set_cons_succ])
    | (apply wv_run rfl; (focus (intro w h; go_simp; first | done | rfl)); simp only [Act.put, List.setIfInBounds_toArray, List.set_cons_zero, List.set_cons_succ])
    | (apply wv_call rfl; (focus (intro w; go_simp; first | done | exact ⟨rfl, rfl⟩)); (focus (intro w h; apply cls_call h; first | exact live_c _ _ h.1 | exact over_v _ _ _ _ _ _ _ _ HOV.out h.1 | exact over_v _ _ _ _ _ _ _ _ HOV2.out h.1 | exact (by have h2 := rover_c _ _ a0 a1 b0 b1 s t h.1; rw [HOV.out] at h2; exact h2))); simp only [Act.put, List.setIfInBounds_toArray, List.set_cons_zero, List.set_cons_succ]))
  refine wv_nil ?_
  simp only [List.drop_succ_cons, List.drop_zero]
  intro w11 ⟨hO11, hS11⟩
  clear hO
  go_wp2
  go_ret
  exact ⟨rfl, below_of (own_at hO11 (k := 4) rfl) (hS1.trans (hS2.trans (hS3.trans (Same.trans ‹Same w3 _› (Same.trans ‹_› (hS4.trans (hS5.trans (hS6.trans hS11)))))))) ⟩
end Go.Proofs.Ytefohmjllcnnkaa.H
