/- Contracts of package patch: Right, end, Apply. -/
import Derived.Test.YtjilkbkafigloaaProg
import Derived.Test.YtjilkbkafigloaaH3
import Derived.Test.YtjilkbkafigloaaM1
import Derived.WalkLawsBesides
import Derived.WalkSpells
set_option linter.unusedVariables false
set_option linter.unusedSimpArgs false
set_option maxRecDepth 100000
namespace Go.Proofs.Ytjilkbkafigloaa.H
open Go.RowKit
theorem row_int : isRowB Try.prog 3 = some false := by kernel_rfl
theorem row_str : isRowB Try.prog 9 = some false := by kernel_rfl
theorem row_bool : isRowB Try.prog 4 = some false := by kernel_rfl
theorem row_u8 : isRowB Try.prog 5 = some false := by kernel_rfl
theorem row_bys : isRowB Try.prog 22 = some false := by kernel_rfl
theorem row_err : isRowB Try.prog 42 = some false := by kernel_rfl
theorem sz_u8 : (Try.prog.info? 5).map (·.size) = some 1 := by kernel_rfl
theorem info_u8 : (Try.prog.info? 5).map (fun i => (i.zero, i.size, i.bytes)) = some (some (.int .u8 0), 1, 1) := by kernel_rfl
theorem mixed : Try.prog.follows .mixedOrders = true := by kernel_rfl
theorem size_pos_of {s : ByteArray} (h : ¬ s.toList = []) : 1 ≤ s.size := by
  rw [ByteArray.toList_eq] at h
  have : s.data.toList.length ≠ 0 := fun e => h (List.eq_nil_of_length_eq_zero e)
  have h2 : s.size = s.data.toList.length := by rw [Array.length_toList]; rfl
  omega
theorem size_zero_of {s : ByteArray} (h : s.toList = []) : s.size = 0 := by
  rw [ByteArray.toList_eq] at h
  have h2 : s.size = s.data.toList.length := by rw [Array.length_toList]; rfl
  rw [h2, h]; rfl

end Go.Proofs.Ytjilkbkafigloaa.H
