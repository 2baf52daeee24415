/- Contracts of package patch: Right, end, Apply. -/
import Derived.Test.YtdcbfdepkbplbaaProg
import Derived.Test.YtdcbfdepkbplbaaH3
import Derived.Test.YtdcbfdepkbplbaaM1
import Derived.WalkLawsBesides
import Derived.WalkSpells
set_option linter.unusedVariables false
set_option linter.unusedSimpArgs false
set_option maxRecDepth 100000
namespace Go.Proofs.Ytdcbfdepkbplbaa.H
open Go.RowKit
theorem row_int : isRowB Try.prog 3 = some false := by kernel_rfl
theorem row_str : isRowB Try.prog 9 = some false := by kernel_rfl
theorem row_bool : isRowB Try.prog 4 = some false := by kernel_rfl
theorem row_u8 : isRowB Try.prog 5 = some false := by kernel_rfl
theorem row_bys : isRowB Try.prog 22 = some false := by kernel_rfl
theorem row_err : isRowB Try.prog 30 = some false := by kernel_rfl
theorem row_pat : isRowB Try.prog 33 = some true := by kernel_rfl
theorem sz_pat : (Try.prog.info? 33).map (·.size) = some 3 := by kernel_rfl
theorem sz_u8 : (Try.prog.info? 5).map (·.size) = some 1 := by kernel_rfl
theorem info_u8 : (Try.prog.info? 5).map (fun i => (i.zero, i.size, i.bytes)) = some (some (.int .u8 0), 1, 1) := by kernel_rfl
theorem mixed : Try.prog.follows .mixedOrders = true := by kernel_rfl
theorem size_pos_of {s : ByteArray} (h : ¬ s.toList = []) : 1 ≤ s.size := by
  rw [ByteArray.toList_eq] at h
  have : s.data.toList.length ≠ 0 := fun e => h (List.eq_nil_of_length_eq_zero e)
  have h2 : s.size = s.data.toList.length := by rw [Array.length_toList]; rfl
  omega
theorem size_zero_of {s : ByteArray} (h : s.toList = []) : s.size = 0 := by
  rw [ByteArray.toList_eq] at h
  have h2 : s.size = s.data.toList.length := by rw [Array.length_toList]; rfl
  rw [h2, h]; rfl

theorem right_c (w : World) (L : List HP) (a0 a1 : Int) (s : ByteArray) (hO : Own w L) : Calls Try.prog 53 #[.agg #[.int .i64 a0, .int .i64 a1, .string s]] w fun e w' => e = .returned (.bool (rightB ⟨a0, a1, s⟩)) ∧ Own w' L ∧ Same w w' := by
  go_enter Try.func53, Try.ntmps53
  go_wp2_with (refine own_box_agg rfl rfl rfl hO ?_; clear hO; intro b w' hO hS; have c0 := own_cell 0 0 hO rfl rfl; have c1 := own_cell 0 1 hO rfl rfl; have c2 := own_cell 0 2 hO rfl rfl)
  all_goals go_ret
  all_goals refine ⟨congrArg Ending.returned (congrArg Value.bool ?_), own_drop hO, hS⟩
  all_goals rw [Bool.eq_iff_iff]
  all_goals simp [rightB]
  all_goals first | omega | (have h0 := size_zero_of (by assumption); omega) | (have h0 := size_pos_of (by assumption); constructor; (intro h; refine ⟨?_, ?_⟩ <;> omega); (intro h; exact ⟨by assumption, by omega⟩))
theorem right_v (w : World) (L : List HP) (a0 a1 : Int) (s : ByteArray) {r : Bool} (hR : rightB ⟨a0, a1, s⟩ = r) (hO : Own w L) : Calls Try.prog 53 #[.agg #[.int .i64 a0, .int .i64 a1, .string s]] w fun e w' => e = .returned (.bool r) ∧ Own w' L ∧ Same w w' := by
  have := right_c w L a0 a1 s hO
  rw [hR] at this
  exact this
theorem end_c (w : World) (L : List HP) (a0 a1 : Int) (s : ByteArray) (h0 : 0 ≤ a1) (h1 : a1 < 32) (h2 : s.size ≤ 32) (hO : Own w L) : Calls Try.prog 64 #[.agg #[.int .i64 a0, .int .i64 a1, .string s]] w fun e w' => e = .returned (.int .i64 (a1 + s.size)) ∧ Own w' L ∧ Same w w' := by
  go_enter Try.func64, Try.ntmps64
  go_wp2_with (refine own_box_agg rfl rfl rfl hO ?_; clear hO; intro b w' hO hS; have c0 := own_cell 0 0 hO rfl rfl; have c1 := own_cell 0 1 hO rfl rfl; have c2 := own_cell 0 2 hO rfl rfl)
  go_ret
  exact ⟨rfl, own_drop hO, hS⟩
end Go.Proofs.Ytdcbfdepkbplbaa.H
