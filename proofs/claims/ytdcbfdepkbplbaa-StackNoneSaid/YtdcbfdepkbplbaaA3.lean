/- Opening a law's argument: ints, a deed on a stack, deeds. -/
import Derived.Test.YtdcbfdepkbplbaaA1
import Derived.Test.YtdcbfdepkbplbaaS8
set_option linter.unusedVariables false
set_option linter.unusedSimpArgs false
set_option maxRecDepth 100000
namespace Go.Proofs.Ytdcbfdepkbplbaa.H
open Go.ChangeShapes Go.WideShapes Go.ChangeAt Go.RowKit Go.Deep Go.Joins
/-- A deed on a stack, as its cells are. -/
structure Dd where
  kind : Int
  n : Int
  m : Int
  p : Pat
  v : Value
  l : List Int
def Dd.cells (d : Dd) : List Value := [.int .i64 d.kind, .int .i64 d.n, .int .i64 d.m, .int .i64 d.p.blk, .int .i64 d.p.off, .string d.p.dat, d.v]
structure Dd.At (w : World) (d : Dd) : Prop where
  rd : Rd w 1 d.v d.l.length (ints d.l)
  i64 : ∀ x ∈ d.l, i64 x
  n64 : H.i64 d.n
  m64 : H.i64 d.m
section
variable {H : Type} {enc : TypeId × Value → H} {w : World} {base : Nat} {spare : Nat → Bool} {held : Bool}
theorem wf_i64 {n : Int} (h : (Lit.int IntKind.i64 n).wf = true) : i64 n := by
  unfold H.i64
  simpa [Lit.wf, IntKind.min, IntKind.max, IntKind.signed, IntKind.bits] using h
theorem open_ints_at {fuel : Nat} {cs : List Value} {x : DataW H × List MemPlace} (hf : DataW.trod enc Try.prog w base spare held fuel 24 cs = some x) :
    ∃ (A : Option Addr) (n c : Nat) (l : List Int), cs = [.slice A n c] ∧ n = l.length ∧ Rd w 1 (.slice A n c) n (ints l) ∧ ∀ x ∈ l, i64 x := by
  rcases open_ints Try.underlying24 Try.underlying3 (by kernel_rfl) hf with ⟨hcs, _⟩ | ⟨x, n, c, zs, hcs, _, hl, hm, hz, _, hcell, hwz⟩
  · exact ⟨_, _, _, [], hcs, rfl, rd_nil _ _, fun x hx => by cases hx⟩
  · have hzl : n ≤ zs.length := by rw [hz]; split <;> omega
    refine ⟨some x, n, c, zs.take n, hcs, by simp; omega, ?_, fun y hy => wf_i64 (hwz y (List.mem_of_mem_take hy))⟩
    refine ⟨by simp [ints]; omega, _, _, rfl, hl, by unfold maxLen at hm; omega, ?_⟩
    intro j u hu
    refine ⟨x, rfl, ?_⟩
    simp only [ints, List.getElem?_map] at hu
    have hj : j < n := by
      rcases Nat.lt_or_ge j n with h | h
      · exact h
      · rw [List.getElem?_take, if_neg (by omega)] at hu; simp at hu
    rw [List.getElem?_take, if_pos hj, List.getElem?_eq_getElem (by omega)] at hu
    simp only [Option.map_some, Option.some.injEq] at hu
    rw [hcell j (by omega), ← hu]
    simp [List.getD, List.getElem?_eq_getElem (show j < zs.length by omega)]
theorem open_intl {r : Reach} {b0 : Nat} {v : Value} {d : DataW H} {p : List MemPlace} (hv : Value.okWide Try.prog w r b0 24 v) (h : DataW.Trod enc Try.prog w base spare held 24 v d p) :
    ∃ (A : Option Addr) (n c : Nat) (l : List Int), v = .slice A n c ∧ n = l.length ∧ Rd w 1 (.slice A n c) n (ints l) ∧ ∀ x ∈ l, i64 x := by
  obtain ⟨A, n, c, rfl⟩ := okWide_slice Try.underlying24 hv
  obtain ⟨fuel, hf⟩ := h
  obtain ⟨A', n', c', l, h1, h2, h3, h4⟩ := open_ints_at hf
  simp [Value.cells] at h1
  obtain ⟨rfl, rfl, rfl⟩ := h1
  exact ⟨_, _, _, l, rfl, h2, h3, h4⟩
theorem list7 {α : Type} {cs : List α} (h : cs.length = 7) : ∃ a b c d e f g, cs = [a, b, c, d, e, f, g] := by
  match cs, h with
  | [a, b, c, d, e, f, g], _ => exact ⟨a, b, c, d, e, f, g, rfl⟩
theorem open_deed_at {fuel : Nat} {cs : List Value} {x : DataW H × List MemPlace} (hf : DataW.trod enc Try.prog w base spare held fuel 42 cs = some x) :
    ∃ d : Dd, cs = d.cells ∧ d.At w := by
  obtain ⟨xs, n, _, rfl, hl, hlen, hf⟩ := DataW.trod_struct Try.underlying42 hf
  have hc : Try.prog.cellsOf 42 = 7 := by kernel_rfl
  have hci : Try.prog.cellsOf 3 = 1 := by kernel_rfl
  have hcp : Try.prog.cellsOf 33 = 3 := by kernel_rfl
  have hcl : Try.prog.cellsOf 24 = 1 := by kernel_rfl
  have hcs : Try.prog.cellsOf 9 = 1 := by kernel_rfl
  rw [hc] at hl
  obtain ⟨c0, c1, c2, c3, c4, c5, c6, rfl⟩ := list7 hl
  have g0 : DataW.trod enc Try.prog w base spare held n 3 (List.take (Try.prog.cellsOf 3) (List.drop 0 [c0, c1, c2, c3, c4, c5, c6])) = xs[0]? := hf 0 _ rfl
  have g1 : DataW.trod enc Try.prog w base spare held n 3 (List.take (Try.prog.cellsOf 3) (List.drop 1 [c0, c1, c2, c3, c4, c5, c6])) = xs[1]? := hf 1 _ rfl
  have g2 : DataW.trod enc Try.prog w base spare held n 3 (List.take (Try.prog.cellsOf 3) (List.drop 2 [c0, c1, c2, c3, c4, c5, c6])) = xs[2]? := hf 2 _ rfl
  have g3 : DataW.trod enc Try.prog w base spare held n 33 (List.take (Try.prog.cellsOf 33) (List.drop 3 [c0, c1, c2, c3, c4, c5, c6])) = xs[3]? := hf 3 _ rfl
  have g4 : DataW.trod enc Try.prog w base spare held n 24 (List.take (Try.prog.cellsOf 24) (List.drop 6 [c0, c1, c2, c3, c4, c5, c6])) = xs[4]? := hf 4 _ rfl
  simp only [hci, hcp, hcl] at g0 g1 g2 g3 g4
  rw [List.getElem?_eq_getElem (by rw [hlen]; decide)] at g0 g1 g2 g3 g4
  obtain ⟨a0, e0, _, w0⟩ := DataW.trod_int Try.underlying3 g0
  obtain ⟨a1, e1, _, w1⟩ := DataW.trod_int Try.underlying3 g1
  obtain ⟨a2, e2, _, w2⟩ := DataW.trod_int Try.underlying3 g2
  obtain ⟨y0, y1, y2, k', hx, _, h0, h1, h2⟩ := trod_struct3 Try.underlying33 g3
  rw [hci] at h0 h1
  rw [hcs] at h2
  obtain ⟨b0, f0, _, _⟩ := DataW.trod_int Try.underlying3 h0
  obtain ⟨b1, f1, _, _⟩ := DataW.trod_int Try.underlying3 h1
  obtain ⟨s, f2, _, _⟩ := DataW.trod_string Try.underlying9 h2
  obtain ⟨A, n, c, l, h5, rfl, h7, h8⟩ := open_ints_at g4
  simp at e0 e1 e2 f0 f1 f2 h5
  subst e0 e1 e2 f0 f1 f2 h5
  exact ⟨⟨a0, a1, a2, ⟨b0, b1, s⟩, _, l⟩, rfl, h7, h8, wf_i64 w1, wf_i64 w2⟩
theorem open_deed {r : Reach} {b0 : Nat} {v : Value} {d : DataW H} {p : List MemPlace} (hv : Value.okWide Try.prog w r b0 42 v) (h : DataW.Trod enc Try.prog w base spare held 42 v d p) :
    ∃ d : Dd, v = .agg d.cells.toArray ∧ d.At w := by
  obtain ⟨cs, rfl, hsz⟩ := okWide_struct Try.underlying42 hv
  obtain ⟨fuel, hf⟩ := h
  obtain ⟨d, h1, h2⟩ := open_deed_at hf
  refine ⟨d, ?_, h2⟩
  rw [← h1]
  simp [Value.cells]
def cellsD (ds : List Dd) : List Value := ds.flatMap Dd.cells
theorem cellsD_length (ds : List Dd) : (cellsD ds).length = ds.length * 7 := by
  induction ds with
  | nil => rfl
  | cons d ds ih => simp only [cellsD, List.flatMap_cons, List.length_append, List.length_cons] at ih ⊢; rw [ih]; simp [Dd.cells]; omega
theorem cellsD_at (ds : List Dd) (k : Nat) (d : Dd) (hk : ds[k]? = some d) (j : Nat) (u : Value) (hu : d.cells[j]? = some u) : (cellsD ds)[k * 7 + j]? = some u := by
  induction ds generalizing k with
  | nil => simp at hk
  | cons e ds ih =>
    have h7 : e.cells.length = 7 := rfl
    cases k with
    | zero =>
      simp at hk
      subst hk
      have hj := (List.getElem?_eq_some_iff.1 hu).1
      simp only [cellsD, List.flatMap_cons]
      rw [List.getElem?_append_left (by omega), ← hu]
      congr 1
      omega
    | succ k =>
      simp only [List.getElem?_cons_succ] at hk
      have := ih k hk
      simp only [cellsD, List.flatMap_cons] at this ⊢
      rw [List.getElem?_append_right (by omega), ← this]
      congr 1
      omega
theorem open_deeds {r : Reach} {b0 : Nat} {v : Value} {d : DataW H} {p : List MemPlace} (hv : Value.okWide Try.prog w r b0 23 v) (h : DataW.Trod enc Try.prog w base spare held 23 v d p) :
    ∃ (A : Option Addr) (n c : Nat) (ds : List Dd), v = .slice A n c ∧ n = ds.length ∧ Rd w 7 (.slice A n c) n (cellsD ds) ∧ ∀ d ∈ ds, d.At w := by
  obtain ⟨A, n, c, rfl⟩ := okWide_slice Try.underlying23 hv
  obtain ⟨fuel, hf⟩ := h
  rcases open_slice Try.underlying23 hf with ⟨hcs, _⟩ | ⟨a, len, cap, m, k, D, Pl, hcs, _, hl, hm, hmm, _, hi⟩
  · simp [Value.cells] at hcs
    obtain ⟨rfl, rfl, rfl⟩ := hcs
    exact ⟨_, _, _, [], rfl, rfl, rd_nil _ _, fun d hd => by cases hd⟩
  · simp [Value.cells] at hcs
    obtain ⟨rfl, rfl, rfl⟩ := hcs
    have hml : n ≤ m := by rw [hmm]; split <;> omega
    have hc7 : Try.prog.cellsOf 42 = 7 := by kernel_rfl
    have key : ∀ i, i < n → ∃ d : Dd, d.At w ∧ ∀ j u, d.cells[j]? = some u → w.cell? (a.add (i * 7 + j)) = some u := by
      intro i hin
      obtain ⟨cs', hc, ht⟩ := hi i (by omega)
      rw [hc7] at hc
      obtain ⟨_, hcl, hat⟩ := World.cells?_some hc
      obtain ⟨d, rfl, hd⟩ := open_deed_at ht
      refine ⟨d, hd, fun j u hu => ?_⟩
      have hj : j < 7 := (List.getElem?_eq_some_iff.1 hu).1
      rw [← addr_add, hat j hj, hu]
    have build : ∀ m, m ≤ n → ∃ ds : List Dd, ds.length = m ∧ (∀ d ∈ ds, d.At w) ∧ ∀ j u, (cellsD ds)[j]? = some u → w.cell? (a.add j) = some u := by
      intro m
      induction m with
      | zero => exact fun _ => ⟨[], rfl, (fun d hd => by cases hd), (fun j u hu => by simp [cellsD] at hu)⟩
      | succ m ih =>
        intro hm
        obtain ⟨ds, hl, had, hps⟩ := ih (by omega)
        obtain ⟨d, hd, hcell⟩ := key m (by omega)
        refine ⟨ds ++ [d], by simp [hl], fun x hx => ?_, fun j u hu => ?_⟩
        · rcases List.mem_append.1 hx with hx | hx
          · exact had x hx
          · simp at hx; subst hx; exact hd
        have e : cellsD (ds ++ [d]) = cellsD ds ++ d.cells := by simp [cellsD]
        rw [e] at hu
        rcases Nat.lt_or_ge j (cellsD ds).length with hj | hj
        · rw [List.getElem?_append_left hj] at hu
          exact hps j u hu
        · rw [List.getElem?_append_right hj] at hu
          have := hcell _ u hu
          rw [cellsD_length, hl] at hj this
          rwa [show m * 7 + (j - m * 7) = j by omega] at this
    obtain ⟨ds, h1, h2, h3⟩ := build n (Nat.le_refl _)
    exact ⟨_, _, _, ds, rfl, h1.symm, ⟨by rw [cellsD_length, h1], _, _, rfl, hl, by unfold maxLen at hm; omega, fun j u hu => ⟨a, rfl, h3 j u hu⟩⟩, h2⟩
end
end Go.Proofs.Ytdcbfdepkbplbaa.H
