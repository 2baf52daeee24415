/- live, of the statements on patches. -/
import Derived.Test.YtefohmjllcnnkaaP2
import Derived.Test.YtefohmjllcnnkaaP8
set_option linter.unusedVariables false
set_option linter.unusedSimpArgs false
set_option maxRecDepth 100000
namespace Go.Proofs.Ytefohmjllcnnkaa.H
open Go.RowKit
theorem live_app : app (List.replicate 32 0) ⟨0, 1, ⟨#[97, 98]⟩⟩ = [0, 97, 98] ++ List.replicate 29 0 := by decide
theorem live_join : (joinM ⟨0, 0, ⟨#[97, 98]⟩⟩ ⟨0, 1, ⟨#[120, 121]⟩⟩).cells.toArray = #[.int .i64 0, .int .i64 0, .string ⟨#[97, 120, 121]⟩] := by rfl
theorem live_c (w : World) (L : List HP) (hO : Own w L) : Calls Try.prog 13 #[] w (Ret w (.bool true) L) := by
  have hcell : (bcs ([0, 97, 98] ++ List.replicate 29 0)).toArray[2]? = some (.int .u8 98) := by rfl
  have HC := Lib.hid hcell
  clear hcell
  go_enter Try.func13, Try.ntmps13
  go_wp2_with (first | (at_make; refine own_make (n := 32) rfl rfl rfl rfl Try.underlying28 info_u8 (by decide) (by decide) (made_bytes 32) hO ?_; clear hO; intro g w1 hO hS1) | (go_at_call 17; refine (apply_ok _ _ _ (List.replicate 32 0) _ _ _ hO (fun w' h => ?_) ?_ ?_).mono ?_; (exact rd_block (own_get 0 h rfl) (List.take_of_length_le (by simp [bcs_length])) (by simp [bcs_length]) (by simp) (by simp)); (simp); decide; rw [live_app]; clear hO; rintro e w2 ⟨g2, rfl, hO, hS2⟩) | (go_at_call 11; refine (join_ok _ _ _ _ _ _ _ _ hO ?_).mono ?_; decide; rw [live_join]; clear hO; rintro e w3 ⟨rfl, hO, hS3⟩) | (refine own_alloc rfl rfl zero_pat rfl hO ?_; clear hO; intro h w4 hO hS4) | (refine own_store_all (k := 0) rfl rfl rfl rfl sz_pat hO rfl rfl rfl rfl ?_; clear hO; intro w5 hO hS5; simp only [List.set_cons_zero] at hO) | (apply own_load1 rfl rfl rfl; exact row_u8; exact own_get 1 hO rfl; exact HC.out) | (apply own_loadrow rfl rfl rfl; (first | exact row_pat); exact sz_pat; (first | exact own_get 0 hO rfl | exact own_get 1 hO rfl | exact own_get 2 hO rfl | exact own_get 3 hO rfl | exact own_get 4 hO rfl | exact own_get 5 hO rfl | exact own_get 6 hO rfl | exact own_get 7 hO rfl); (focus (simp; done)); (first | (simp only [List.drop_zero, List.drop_succ_cons, List.take_succ_cons, List.take_zero]; rfl) | rfl)))
  go_ret
  exact ⟨rfl, own_drop (own_drop (own_drop hO)), hS1.trans (hS2.trans (hS3.trans (hS4.trans hS5)))⟩
end Go.Proofs.Ytefohmjllcnnkaa.H
