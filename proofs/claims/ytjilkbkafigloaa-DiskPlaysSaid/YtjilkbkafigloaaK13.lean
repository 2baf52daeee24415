/- The law's sector. -/
import Derived.Test.YtjilkbkafigloaaK12
set_option linter.unusedVariables false
set_option linter.unusedSimpArgs false
set_option maxRecDepth 100000
namespace Go.Proofs.Ytjilkbkafigloaa.H
open Go.RowKit
/-- A sector of one byte. -/
abbrev sec (c : UInt8) : Sec := List.replicate 32 c
theorem row_arr : isRowB Try.prog 25 = some true := by kernel_rfl
theorem sz_arr3 : (Try.prog.info? 25).map (·.size) = some 32 := by kernel_rfl
theorem zero_arr : (Try.prog.info? 25).map (·.zero) = some (some (.agg (Array.replicate 32 (.int .u8 0)))) := by kernel_rfl
theorem sz_u83 : (Try.prog.info? 5).map (·.size) = some 1 := by kernel_rfl
def half (c : UInt8) (k : Nat) : Sec := List.replicate k c ++ List.replicate (32 - k) 0
theorem half_len (c : UInt8) {k : Nat} (h : k ≤ 32) : (half c k).length = 32 := by simp [half]; omega
theorem half_set (c : UInt8) {k : Nat} (h : k < 32) : (bcs (half c k)).toArray.setIfInBounds k (.int .u8 (c.toNat : Int)) = (bcs (half c (k + 1))).toArray := by
  have e : (half c k).set k c = half c (k + 1) := by
    unfold half
    rw [List.set_append_right _ _ (by simp), List.length_replicate, Nat.sub_self, show 32 - k = (32 - (k + 1)) + 1 by omega, List.replicate_succ, List.set_cons_zero, List.replicate_succ', List.append_assoc]
    rfl
  rw [← e]
  apply Array.ext'
  simp [bcs, List.map_set]
theorem half_zero (c : UInt8) : (Value.agg (Array.replicate 32 (Value.int .u8 0))).cells = (bcs (half c 0)).toArray := by
  apply Array.ext'
  simp [Value.cells, half, bcs]
theorem sector_c (w : World) (L : List HP) (c : UInt8) (hO : Own w L) : Calls Try.prog 10 #[.int .u8 (c.toNat : Int)] w (Ret w (secV (sec c)) L) := by
  have hS := Same.refl w
  go_enter Try.func10, Try.ntmps10
  go_wp2_with (first | (refine own_alloc (T := 25) rfl rfl zero_arr (half_zero c) hO ?_; clear hO; intro g u hO hSn; replace hS := hS.trans hSn; clear hSn))
  go_loopw [3] (fun i wr => ∃ k : Nat, k ≤ 32 ∧ i = .int .i64 k ∧ Own wr (pts g (.cells (bcs (half c k)).toArray 25) :: L) ∧ Same w wr) (fun i _ => 32 - (intOf i).toNat)
  case atStart => exact ⟨0, Nat.zero_le _, rfl, hO, hS⟩
  case round =>
    clear hO hS
    obtain ⟨k, hk, rfl, hO, hS⟩ := hrel
    have HH : Hid ((half c k).length = 32) := Lib.hid (half_len c hk)
    by_cases hlt : k < 32
    · have hk1 : (k : Int) < 32 := by omega
      have HS := Lib.hid (half_set c hlt)
      go_wp2_with (refine own_store1 (k := 0) (cs' := (bcs (half c (k + 1))).toArray) rfl rfl rfl rfl sz_u83 hO rfl rfl ?_ ?_ ?_; (simp only [List.size_toArray, bcs_length, HH.out]; exact hlt); exact HS.out; clear hO; intro u hO hSn; replace hS := hS.trans hSn; clear hSn; simp only [List.set_cons_zero] at hO)
      go_roundw
      case rel => exact ⟨k + 1, by omega, by go_num, hO, hS⟩
      case measure => simp [intOf]; omega
    · have hke : k = 32 := by omega
      subst hke
      have e : Hid (half c 32 = sec c) := Lib.hid (List.append_nil _)
      go_wp2_with (first | (refine own_loadrow (b := g) (off := 0) (vs := bcs (half c 32)) rfl rfl rfl row_arr sz_arr3 (own_get 0 hO rfl) (by simp [bcs_length, HH.out]) (by rw [List.drop_zero]; exact List.take_of_length_le (by simp [bcs_length, HH.out])) ?_) | (refine own_store_all (k := 0) rfl rfl rfl rfl sz_arr3 hO rfl (secA_size HH.out) (secA_size HH.out) (bcs_all _) ?_; clear hO; intro u hO hSn; replace hS := hS.trans hSn; clear hSn; simp only [List.set_cons_zero, List.set_cons_succ] at hO))
      refine bodyPost_ret (results_cell rfl rfl (own_get 0 hO rfl) row_arr (by rw [secA_size HH.out]; exact sz_arr3)) rfl ⟨by rw [← e.out], own_drop hO, hS⟩
end Go.Proofs.Ytjilkbkafigloaa.H
