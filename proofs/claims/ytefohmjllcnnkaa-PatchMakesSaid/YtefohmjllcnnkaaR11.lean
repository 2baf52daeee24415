/- Contract of patch.Diff at what may not be. -/
import Derived.Test.YtefohmjllcnnkaaR10
set_option linter.unusedVariables false
set_option linter.unusedSimpArgs false
set_option maxRecDepth 100000
namespace Go.Proofs.Ytefohmjllcnnkaa.H
open Go.RowKit
/-- Which one of Diff's guards strikes. -/
theorem diff_enter {blk : Int} {n m : Nat} (h : ¬ (0 ≤ blk ∧ blk < 96 ∧ n = 32 ∧ m = 32)) :
    decide (blk < 0) = true ∨ (decide (blk < 0) = false ∧ decide (blk ≥ 96) = true) ∨ (decide (blk < 0) = false ∧ decide (blk ≥ 96) = false ∧ ((n : Int) != 32) = true) ∨ (decide (blk < 0) = false ∧ decide (blk ≥ 96) = false ∧ ((n : Int) != 32) = false ∧ ((m : Int) != 32) = true) := by
  by_cases h1 : blk < 0
  · exact .inl (by simpa using h1)
  by_cases h2 : blk ≥ 96
  · exact .inr (.inl ⟨by simp; omega, by simp; omega⟩)
  by_cases h3 : n = 32
  · exact .inr (.inr (.inr ⟨by simp; omega, by simp; omega, by simp; omega, by simp; omega⟩))
  · exact .inr (.inr (.inl ⟨by simp; omega, by simp; omega, by simp; omega⟩))
set_option maxHeartbeats 800000 in
theorem diff_no (w : World) (L : List HP) (A B : Option Addr) (n m c c' : Nat) (blk : Int) (hO : Own w L) (h : ¬ (0 ≤ blk ∧ blk < 96 ∧ n = 32 ∧ m = 32)) :
    Calls Try.prog 30 #[.int .i64 blk, .slice A n c, .slice B m c'] w (Ret w (.slice none 0 0) L) := by
  rcases diff_enter h with e1 | ⟨e1, e2⟩ | ⟨e1, e2, e3⟩ | ⟨e1, e2, e3, e4⟩
  all_goals
    clear h
    go_enter Try.func30, Try.ntmps30
    go_wp2
    go_ret
    exact ⟨rfl, hO, Same.refl _⟩
end Go.Proofs.Ytefohmjllcnnkaa.H
