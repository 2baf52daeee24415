/- Opening a law's argument: patches. -/
import Derived.Test.YtefohmjllcnnkaaA1
set_option linter.unusedVariables false
set_option linter.unusedSimpArgs false
set_option maxRecDepth 100000
namespace Go.Proofs.Ytefohmjllcnnkaa.H
open Go.ChangeShapes Go.WideShapes Go.ChangeAt Go.RowKit Go.Deep Go.Joins
section
variable {H : Type} {enc : TypeId × Value → H} {w : World} {base : Nat} {spare : Nat → Bool} {held : Bool}
theorem cellsP_of (f : Nat → Value) (m : Nat) (hf : ∀ i, i < m → ∃ a0 a1 s, f (i * 3) = .int .i64 a0 ∧ f (i * 3 + 1) = .int .i64 a1 ∧ f (i * 3 + 2) = .string s) :
    ∃ ps : List Pat, ps.length = m ∧ ∀ (j : Nat) (u : Value), (cellsP ps)[j]? = some u → f j = u := by
  induction m with
  | zero => exact ⟨[], rfl, fun j u hu => by simp [cellsP] at hu⟩
  | succ m ih =>
    obtain ⟨ps, hl, hps⟩ := ih (fun i hi => hf i (by omega))
    obtain ⟨a0, a1, s, h0, h1, h2⟩ := hf m (by omega)
    refine ⟨ps ++ [⟨a0, a1, s⟩], by simp [hl], fun j u hu => ?_⟩
    have e : cellsP (ps ++ [⟨a0, a1, s⟩]) = cellsP ps ++ [.int .i64 a0, .int .i64 a1, .string s] := by simp [cellsP, Pat.cells]
    rw [e] at hu
    rcases Nat.lt_or_ge j (cellsP ps).length with hj | hj
    · rw [List.getElem?_append_left hj] at hu
      exact hps j u hu
    · rw [List.getElem?_append_right hj] at hu
      rw [cellsP_length, hl] at hj hu
      have h3 := (List.getElem?_eq_some_iff.1 hu).1
      simp at h3
      obtain rfl | rfl | rfl : j = m * 3 ∨ j = m * 3 + 1 ∨ j = m * 3 + 2 := by omega
      · simp at hu; rw [h0, hu]
      · rw [show m * 3 + 1 - m * 3 = 1 by omega] at hu; simp at hu; rw [h1, hu]
      · rw [show m * 3 + 2 - m * 3 = 2 by omega] at hu; simp at hu; rw [h2, hu]
theorem open_pats {r : Reach} {b0 : Nat} {v : Value} {d : DataW H} {p : List MemPlace} (hv : Value.okWide Try.prog w r b0 37 v) (h : DataW.Trod enc Try.prog w base spare held 37 v d p) :
    ∃ (A : Option Addr) (n c : Nat) (ps : List Pat), v = .slice A n c ∧ n = ps.length ∧ Rd w 3 (.slice A n c) n (cellsP ps) := by
  obtain ⟨A, n, c, rfl⟩ := okWide_slice Try.underlying37 hv
  obtain ⟨fuel, hf⟩ := h
  rcases open_slice Try.underlying37 hf with ⟨hcs, _⟩ | ⟨a, len, cap, m, k, D, Pl, hcs, _, hl, hm, hmm, _, hi⟩
  · simp [Value.cells] at hcs
    obtain ⟨rfl, rfl, rfl⟩ := hcs
    exact ⟨_, _, _, [], rfl, rfl, rd_nil _ _⟩
  · simp [Value.cells] at hcs
    obtain ⟨rfl, rfl, rfl⟩ := hcs
    have hml : n ≤ m := by rw [hmm]; split <;> omega
    have key : ∀ i, i < n → ∃ a0 a1 s, w.cell? (a.add (i * 3)) = some (.int .i64 a0) ∧ w.cell? (a.add (i * 3 + 1)) = some (.int .i64 a1) ∧ w.cell? (a.add (i * 3 + 2)) = some (.string s) := by
      intro i hin
      obtain ⟨cs', hc, ht⟩ := hi i (by omega)
      rw [pat_cells] at hc
      obtain ⟨_, hcl, hat⟩ := World.cells?_some hc
      have c0 : Try.prog.cellsOf 3 = 1 := by kernel_rfl
      have c1 : Try.prog.cellsOf 9 = 1 := by kernel_rfl
      obtain ⟨v0, v1, v2, rfl⟩ : ∃ v0 v1 v2, cs' = [v0, v1, v2] := by
        match cs', hcl with
        | [v0, v1, v2], _ => exact ⟨v0, v1, v2, rfl⟩
      obtain ⟨y0, y1, y2, k', hx, _, h0, h1, h2⟩ := trod_struct3 Try.underlying23 ht
      obtain ⟨a0, e0, _, _⟩ := DataW.trod_int Try.underlying3 h0
      obtain ⟨a1, e1, _, _⟩ := DataW.trod_int Try.underlying3 h1
      obtain ⟨s, e2, _, _⟩ := DataW.trod_string Try.underlying9 h2
      rw [c0] at e0 e1
      rw [c1] at e2
      simp at e0 e1 e2
      subst e0 e1 e2
      have g0 := hat 0 (by omega)
      have g1 := hat 1 (by omega)
      have g2 := hat 2 (by omega)
      rw [addr_add] at g0 g1 g2
      exact ⟨a0, a1, s, by simpa using g0, by simpa using g1, by simpa using g2⟩
    obtain ⟨ps, hps, hcell⟩ := cellsP_of (fun j => (w.cell? (a.add j)).getD (.int .i64 0)) n (fun i hin => by
      obtain ⟨a0, a1, s, g0, g1, g2⟩ := key i hin
      exact ⟨a0, a1, s, by simp only [g0]; rfl, by simp only [g1]; rfl, by simp only [g2]; rfl⟩)
    refine ⟨_, _, _, ps, rfl, hps.symm, by rw [cellsP_length, hps], _, _, rfl, hl, by unfold maxLen at hm; omega, fun j u hu => ⟨a, rfl, ?_⟩⟩
    have hc := hcell j u hu
    have hj : j < n * 3 := by
      have := (List.getElem?_eq_some_iff.1 hu).1
      rw [cellsP_length, hps] at this
      exact this
    obtain ⟨a0, a1, s, g0, g1, g2⟩ := key (j / 3) (by omega)
    obtain e | e | e : j = j / 3 * 3 ∨ j = j / 3 * 3 + 1 ∨ j = j / 3 * 3 + 2 := by omega
    · rw [← e] at g0; rw [g0] at hc ⊢; exact congrArg some hc
    · rw [← e] at g1; rw [g1] at hc ⊢; exact congrArg some hc
    · rw [← e] at g2; rw [g2] at hc ⊢; exact congrArg some hc
end
end Go.Proofs.Ytefohmjllcnnkaa.H
