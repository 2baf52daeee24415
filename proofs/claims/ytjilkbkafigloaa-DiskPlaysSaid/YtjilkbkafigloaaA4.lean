/- Opening a law's argument: a deed on a disk. -/
import Derived.Test.YtjilkbkafigloaaA1
import Derived.Test.YtjilkbkafigloaaJ1
set_option linter.unusedVariables false
set_option linter.unusedSimpArgs false
set_option maxRecDepth 100000
namespace Go.Proofs.Ytjilkbkafigloaa.H
open Go.ChangeShapes Go.WideShapes Go.ChangeAt Go.RowKit Go.Deep Go.Joins
section
variable {H : Type} {enc : TypeId × Value → H} {w : World} {base : Nat} {spare : Nat → Bool} {held : Bool}
theorem list5 {α : Type} {cs : List α} (h : cs.length = 5) : ∃ a b c d e, cs = [a, b, c, d, e] := by
  match cs, h with
  | [a, b, c, d, e], _ => exact ⟨a, b, c, d, e, rfl⟩
/-- A deed on a disk, as its cells are. -/
structure DDeed where
  kind : Int
  i : Int
  c : UInt8
  v : Value
  l : List Int
  bad : Bool
def DDeed.cells (d : DDeed) : List Value := [.int .i64 d.kind, .int .i64 d.i, .int .u8 (d.c.toNat : Int), d.v, .bool d.bad]
structure DDeed.At (w : World) (d : DDeed) : Prop where
  rd : Rd w 1 d.v d.l.length (d.l.map encZ)
  inl : ∀ x ∈ d.l, inI x
  ini : inI d.i
theorem open_ints_d {fuel : Nat} {cs : List Value} {x : DataW H × List MemPlace} (hf : DataW.trod enc Try.prog w base spare held fuel 41 cs = some x) :
    ∃ (A : Option Addr) (n c : Nat) (l : List Int), cs = [.slice A n c] ∧ n = l.length ∧ Rd w 1 (.slice A n c) n (l.map encZ) ∧ ∀ x ∈ l, inI x := by
  rcases open_ints Try.underlying41 Try.underlying3 (by kernel_rfl) hf with ⟨hcs, _⟩ | ⟨x, n, c, zs, hcs, _, hl, hm, hz, _, hcell, hwz⟩
  · exact ⟨_, _, _, [], hcs, rfl, rd_nil _ _, fun x hx => by cases hx⟩
  · have hzl : n ≤ zs.length := by rw [hz]; split <;> omega
    refine ⟨some x, n, c, zs.take n, hcs, by simp; omega, ?_, fun y hy => hwz y (List.mem_of_mem_take hy)⟩
    refine ⟨by simp; omega, _, _, rfl, hl, by unfold maxLen at hm; omega, ?_⟩
    intro j u hu
    refine ⟨x, rfl, ?_⟩
    simp only [List.getElem?_map] at hu
    have hj : j < n := by
      rcases Nat.lt_or_ge j n with h | h
      · exact h
      · rw [List.getElem?_take, if_neg (by omega)] at hu; simp at hu
    rw [List.getElem?_take, if_pos hj, List.getElem?_eq_getElem (by omega)] at hu
    simp only [Option.map_some, Option.some.injEq] at hu
    rw [hcell j (by omega), ← hu]
    simp [List.getD, List.getElem?_eq_getElem (show j < zs.length by omega)]
theorem open_ddeed_at {fuel : Nat} {cs : List Value} {x : DataW H × List MemPlace} (hf : DataW.trod enc Try.prog w base spare held fuel 50 cs = some x) :
    ∃ d : DDeed, cs = d.cells ∧ d.At w := by
  obtain ⟨xs, n, _, rfl, hl, hlen, hf⟩ := DataW.trod_struct Try.underlying50 hf
  have hc : Try.prog.cellsOf 50 = 5 := by kernel_rfl
  have hci : Try.prog.cellsOf 3 = 1 := by kernel_rfl
  have hcu : Try.prog.cellsOf 5 = 1 := by kernel_rfl
  have hcl : Try.prog.cellsOf 41 = 1 := by kernel_rfl
  have hcb : Try.prog.cellsOf 4 = 1 := by kernel_rfl
  rw [hc] at hl
  obtain ⟨c0, c1, c2, c3, c4, rfl⟩ := list5 hl
  have g0 : DataW.trod enc Try.prog w base spare held n 3 (List.take (Try.prog.cellsOf 3) (List.drop 0 [c0, c1, c2, c3, c4])) = xs[0]? := hf 0 _ rfl
  have g1 : DataW.trod enc Try.prog w base spare held n 3 (List.take (Try.prog.cellsOf 3) (List.drop 1 [c0, c1, c2, c3, c4])) = xs[1]? := hf 1 _ rfl
  have g2 : DataW.trod enc Try.prog w base spare held n 5 (List.take (Try.prog.cellsOf 5) (List.drop 2 [c0, c1, c2, c3, c4])) = xs[2]? := hf 2 _ rfl
  have g3 : DataW.trod enc Try.prog w base spare held n 41 (List.take (Try.prog.cellsOf 41) (List.drop 3 [c0, c1, c2, c3, c4])) = xs[3]? := hf 3 _ rfl
  have g4 : DataW.trod enc Try.prog w base spare held n 4 (List.take (Try.prog.cellsOf 4) (List.drop 4 [c0, c1, c2, c3, c4])) = xs[4]? := hf 4 _ rfl
  simp only [hci, hcu, hcl, hcb] at g0 g1 g2 g3 g4
  rw [List.getElem?_eq_getElem (by rw [hlen]; decide)] at g0 g1 g2 g3 g4
  obtain ⟨a0, e0, _, w0⟩ := DataW.trod_int Try.underlying3 g0
  obtain ⟨a1, e1, _, w1⟩ := DataW.trod_int Try.underlying3 g1
  obtain ⟨a2, e2, _, w2⟩ := DataW.trod_int Try.underlying5 g2
  obtain ⟨A, n, c, l, h5, rfl, h7, h8⟩ := open_ints_d g3
  obtain ⟨b, e4, _⟩ := DataW.trod_bool Try.underlying4 g4
  simp at e0 e1 e2 h5 e4
  subst e0 e1 e2 h5 e4
  have hu : a2 = ((UInt8.ofNat a2.toNat).toNat : Int) := by
    simp [Lit.wf, IntKind.min, IntKind.max, IntKind.signed, IntKind.bits] at w2
    rw [UInt8.toNat_ofNat_of_lt' (by simp; omega)]
    omega
  refine ⟨⟨a0, a1, UInt8.ofNat a2.toNat, _, l, b⟩, ?_, h7, h8, w1⟩
  unfold DDeed.cells
  rw [← hu]
theorem open_ddeed {r : Reach} {b0 : Nat} {v : Value} {d : DataW H} {p : List MemPlace} (hv : Value.okWide Try.prog w r b0 50 v) (h : DataW.Trod enc Try.prog w base spare held 50 v d p) :
    ∃ d : DDeed, v = .agg d.cells.toArray ∧ d.At w := by
  obtain ⟨cs, rfl, hsz⟩ := okWide_struct Try.underlying50 hv
  obtain ⟨fuel, hf⟩ := h
  obtain ⟨d, h1, h2⟩ := open_ddeed_at hf
  refine ⟨d, ?_, h2⟩
  rw [← h1]
  simp [Value.cells]
end
end Go.Proofs.Ytjilkbkafigloaa.H
