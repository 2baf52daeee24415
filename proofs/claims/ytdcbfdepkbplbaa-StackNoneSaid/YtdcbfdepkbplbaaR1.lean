/- Contracts of the reference of patch: Right, writes. -/
import Derived.Test.YtdcbfdepkbplbaaP1
set_option linter.unusedVariables false
set_option linter.unusedSimpArgs false
set_option maxRecDepth 100000
namespace Go.Proofs.Ytdcbfdepkbplbaa.H
open Go.RowKit
set_option maxHeartbeats 800000 in
theorem rright_c (w : World) (L : List HP) (a0 a1 : Int) (s : ByteArray) (hO : Own w L) : Calls Try.prog 69 #[.agg #[.int .i64 a0, .int .i64 a1, .string s]] w fun e w' => e = .returned (.bool (rightB ⟨a0, a1, s⟩)) ∧ Own w' L ∧ Same w w' := by
  have enter : (decide (0 ≤ a0) = false) ∨ (decide (0 ≤ a0) = true ∧ decide (a0 < 96) = false) ∨ (decide (0 ≤ a0) = true ∧ decide (a0 < 96) = true ∧ decide (0 ≤ a1) = false) ∨ (decide (0 ≤ a0) = true ∧ decide (a0 < 96) = true ∧ decide (0 ≤ a1) = true ∧ decide (a1 < 32) = false) ∨
      (decide (0 ≤ a0) = true ∧ decide (a0 < 96) = true ∧ decide (0 ≤ a1) = true ∧ decide (a1 < 32) = true ∧ decide (1 ≤ (s.size : Int)) = false) ∨ (decide (0 ≤ a0) = true ∧ decide (a0 < 96) = true ∧ decide (0 ≤ a1) = true ∧ decide (a1 < 32) = true ∧ decide (1 ≤ (s.size : Int)) = true) := by simp only [decide_eq_true_eq, decide_eq_false_iff_not]; omega
  rcases enter with h1 | ⟨h1, h2⟩ | ⟨h1, h2, h3⟩ | ⟨h1, h2, h3, h4⟩ | ⟨h1, h2, h3, h4, h5⟩ | ⟨h1, h2, h3, h4, h5⟩
  all_goals
    try (have b1 := of_decide_eq_true h3; have b2 := of_decide_eq_true h4; have b3 : IntKind.i64.wrap (32 - a1) = 32 - a1 := (by rw [IntKind.wrap_i64]; omega))
    go_enter Try.func69, Try.ntmps69
    go_upto_region 1 with (refine own_box_agg rfl rfl rfl hO ?_; clear hO; intro b w1 hO hS)
    refine wp_plain_seq (Cls w1 (pts b (.cells #[.int .i64 a0, .int .i64 a1, .string s] 33) :: L)) 33 (cls_here hO) ?_
    simp only [List.take_succ_cons, List.take_zero]
    repeat (first
      | (apply wv_skip rfl; simp only [Act.put, List.setIfInBounds_toArray, List.set_cons_zero, List.set_cons_succ])
      | (apply wv_load1 rfl rfl rfl; (first | exact row_int | exact row_str | exact row_bool | exact row_u8 | exact row_bys | exact row_pats | exact row_err); (intro w h; (first | exact own_get 0 h.1 rfl | exact own_get 1 h.1 rfl | exact own_get 2 h.1 rfl | exact own_get 3 h.1 rfl | exact own_get 4 h.1 rfl | exact own_get 5 h.1 rfl | exact own_get 6 h.1 rfl | exact own_get 7 h.1 rfl)); (first | (simp only [List.getElem?_toArray, List.getElem?_cons_succ, List.getElem?_cons_zero]; rfl) | rfl); simp only [Act.put, List.setIfInBounds_toArray, List.set_cons_zero, List.set_cons_succ])
      | (apply wv_loadrow rfl rfl rfl; (first | exact row_pat); exact sz_pat; (intro w h; (first | exact own_get 0 h.1 rfl | exact own_get 1 h.1 rfl | exact own_get 2 h.1 rfl | exact own_get 3 h.1 rfl | exact own_get 4 h.1 rfl | exact own_get 5 h.1 rfl | exact own_get 6 h.1 rfl | exact own_get 7 h.1 rfl)); (focus (simp; done)); (first | (simp only [List.drop_zero, List.drop_succ_cons, List.take_succ_cons, List.take_zero]; rfl) | rfl); simp only [Act.put, List.setIfInBounds_toArray, List.set_cons_zero, List.set_cons_succ])
      | (apply wv_run rfl; (focus (intro w h; go_simp; first | done | rfl)); simp only [Act.put, List.setIfInBounds_toArray, List.set_cons_zero, List.set_cons_succ])
      | (apply wv_call rfl; (focus (intro w; go_simp; first | done | exact ⟨rfl, rfl⟩)); (focus (intro w h; apply cls_call h; fail)); simp only [Act.put, List.setIfInBounds_toArray, List.set_cons_zero, List.set_cons_succ]))
    refine wv_nil ?_
    simp only [List.drop_succ_cons, List.drop_zero]
    intro w2 h2
    go_wp2
    go_ret
    refine ⟨congrArg Ending.returned (congrArg Value.bool ?_), own_drop h2.1, hS.trans h2.2⟩
    simp only [decide_eq_true_eq, decide_eq_false_iff_not] at *
    first | (symm; simp [rightB]; omega) | (rw [Bool.eq_iff_iff]; simp [rightB]; omega)
theorem rright_v (w : World) (L : List HP) (a0 a1 : Int) (s : ByteArray) {r : Bool} (hR : rightB ⟨a0, a1, s⟩ = r) (hO : Own w L) : Calls Try.prog 69 #[.agg #[.int .i64 a0, .int .i64 a1, .string s]] w fun e w' => e = .returned (.bool r) ∧ Own w' L ∧ Same w w' := by
  have := rright_c w L a0 a1 s hO
  rw [hR] at this
  exact this
def wrB (p : Pat) (i : Nat) : Bool := decide (p.off ≤ i) && decide ((i : Int) < p.off + p.dat.size)
theorem rwrites_c (w : World) (L : List HP) (a0 a1 : Int) (s : ByteArray) (i : Nat) (h0 : 0 ≤ a1) (h1 : a1 < 32) (h2 : s.size ≤ 32) (hi : i ≤ 32) (hO : Own w L) : Calls Try.prog 72 #[.agg #[.int .i64 a0, .int .i64 a1, .string s], .int .i64 i] w fun e w' => e = .returned (.bool (wrB ⟨a0, a1, s⟩ i)) ∧ Own w' L ∧ Same w w' := by
  go_enter Try.func72, Try.ntmps72
  go_wp2_with (refine own_box_agg rfl rfl rfl hO ?_; clear hO; intro b w' hO hS; have c0 := own_cell 0 0 hO rfl rfl; have c1 := own_cell 0 1 hO rfl rfl; have c2 := own_cell 0 2 hO rfl rfl)
  all_goals go_ret
  all_goals refine ⟨congrArg Ending.returned (congrArg Value.bool ?_), own_drop hO, hS⟩
  all_goals rw [Bool.eq_iff_iff]
  all_goals simp [wrB]
  all_goals first | omega | (constructor <;> (intro h; omega))
end Go.Proofs.Ytdcbfdepkbplbaa.H
