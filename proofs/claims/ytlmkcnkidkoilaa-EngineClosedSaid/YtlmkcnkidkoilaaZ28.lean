/- Opening a law's arguments: bytes, a patch, patches. Opening a law's argument: a deed on a disk. Opening a law's argument: deeds on a disk. Opening a law's argument: a slice of ints (disk). Opening a law's argument: items, a deed on an engine, deeds. Opening a law's argument: items, with the bound on their strings that the form's own reach gives. EngineClosed's walk, over what its arguments read as. -/
import Derived.Test.YtlmkcnkidkoilaaZ06
import Derived.Test.YtlmkcnkidkoilaaRows
import Derived.WalkKit
import Derived.ProofKit
import Derived.OpenShut
import Derived.Carry
import Derived.Deep.Slices
import Derived.Deep.Fields
import Derived.ChangeSame
import Derived.ChangeOld
import Derived.Lib.SmallJoins
import Derived.Test.YtlmkcnkidkoilaaZ07
import Derived.Test.YtlmkcnkidkoilaaZ18
import Derived.SizedLaws
import Derived.Test.YtlmkcnkidkoilaaZ27
set_option linter.unusedVariables false
set_option linter.unusedSimpArgs false
set_option maxRecDepth 100000
namespace Go.Proofs.Ytlmkcnkidkoilaa.H
open Go.ChangeShapes Go.WideShapes Go.ChangeAt Go.RowKit Go.Deep Go.Joins
theorem laidOut : laidOutB Try.prog = true := by kernel_rfl
theorem ownk : ownKnob Try.prog.godebug = none := by kernel_rfl
theorem lt_of_trod {H : Type} {enc : TypeId × Value → H} {P : Program} {w : World} {sp : Nat → Bool} {hd : Bool} {t : TypeId} {v : Value} {d : DataW H} {ps : List MemPlace} (h : DataW.Trod enc P w 0 sp hd t v d ps) : ∀ x ∈ ps, x.block < w.heap.size := by
  obtain ⟨m, hm⟩ := h
  exact DataW.trod_lt m _ _ _ hm
/-- All arguments read as they did, behind a call that wrote nothing that was there. -/
theorem trodAll_below {H : Type} {enc : TypeId × Value → H} {P : Program} {W W' : World} (hl : laidOutB P = true) (hb : Below W.heap.size W W') :
    ∀ (ts : List TypeId) (vs : List Value) (ds : List (DataW H)) (ps : List MemPlace), (ts.all fun t => P.readableRec t && decide (t < P.types.size)) = true → DataW.TrodAll enc P W 0 (fun _ => true) true ts vs ds ps → DataW.TrodAll enc P W' 0 (fun b => decide (b < W.heap.size)) true ts vs ds ps := by
  intro ts
  induction ts with
  | nil =>
    intro vs ds ps _ h
    obtain ⟨rfl, rfl, rfl⟩ := trodAll_nil h
    exact trodAll_mk0
  | cons t ts ih =>
    intro vs ds ps ht h
    simp only [List.all_cons, Bool.and_eq_true, decide_eq_true_eq] at ht
    obtain ⟨v, vs', d, ds', p, q, rfl, rfl, rfl, h1, h2⟩ := trodAll_cons h
    exact trodAll_cons_mk (Below.trod hl ht.1.1 ht.1.2 h1 hb (lt_of_trod h1)) (ih _ _ _ ht.2 h2)
section
variable {H : Type} {enc : TypeId × Value → H} {w : World} {base : Nat} {spare : Nat → Bool} {held : Bool}
def u8s (zs : List Int) : List UInt8 := zs.map fun z => UInt8.ofNat z.toNat
theorem open_bytes {r : Reach} {b0 : Nat} {v : Value} {d : DataW H} {p : List MemPlace} (hv : Value.okWide Try.prog w r b0 23 v) (h : DataW.Trod enc Try.prog w base spare held 23 v d p) :
    ∃ (A : Option Addr) (n c : Nat) (l : List UInt8), v = .slice A n c ∧ n = l.length ∧ Rd w 1 (.slice A n c) n (bcs l) := by
  obtain ⟨A, n, c, rfl⟩ := okWide_slice Try.underlying23 hv
  obtain ⟨fuel, hf⟩ := h
  rcases open_ints Try.underlying23 Try.underlying5 (by kernel_rfl) hf with ⟨hcs, _⟩ | ⟨x, len, cap, zs, hcs, _, hl, hm, hz, _, hcell, hwz⟩
  · simp [Value.cells] at hcs
    obtain ⟨rfl, rfl, rfl⟩ := hcs
    exact ⟨_, _, _, [], rfl, rfl, rd_nil _ _⟩
  · simp [Value.cells] at hcs
    obtain ⟨rfl, rfl, rfl⟩ := hcs
    have hzl : n ≤ zs.length := by rw [hz]; split <;> omega
    refine ⟨_, _, _, u8s (zs.take n), rfl, by simp [u8s]; omega, ?_, _, _, rfl, hl, by unfold maxLen at hm; omega, ?_⟩
    · simp [bcs_length, u8s]; omega
    · intro j u hu
      refine ⟨x, rfl, ?_⟩
      simp only [bcs, u8s, List.map_map, List.getElem?_map] at hu
      have hj : j < n := by
        rcases Nat.lt_or_ge j n with h | h
        · exact h
        · rw [List.getElem?_take, if_neg (by omega)] at hu; simp at hu
      rw [List.getElem?_take, if_pos hj, List.getElem?_eq_getElem (by omega)] at hu
      simp only [Option.map_some, Option.some.injEq, Function.comp] at hu
      rw [hcell j (by omega), ← hu]
      have hw := hwz (zs[j]'(by omega)) (List.getElem_mem _)
      have hb : 0 ≤ zs[j]'(by omega) ∧ zs[j]'(by omega) ≤ 255 := by simpa [Lit.wf, IntKind.min, IntKind.max, IntKind.signed, IntKind.bits] using hw
      have e : zs.getD j 0 = zs[j]'(by omega) := by simp [List.getD, List.getElem?_eq_getElem (show j < zs.length by omega)]
      rw [e]
      congr 2
      rw [UInt8.toNat_ofNat']
      omega
theorem pat_cells : Try.prog.cellsOf 30 = 3 := by kernel_rfl
theorem open_patch {r : Reach} {b0 : Nat} {v : Value} {d : DataW H} {p : List MemPlace} (hv : Value.okWide Try.prog w r b0 30 v) (h : DataW.Trod enc Try.prog w base spare held 30 v d p) :
    ∃ (a0 a1 : Int) (s : ByteArray), v = .agg #[.int .i64 a0, .int .i64 a1, .string s] := by
  obtain ⟨c0, c1, c2, y0, y1, y2, m, rfl, rfl, rfl, hy0, hy1, hy2⟩ := open_agg3 Try.underlying30 (by kernel_rfl) pat_cells hv h
  obtain ⟨a0, e0, rfl, w0⟩ := DataW.trod_int Try.underlying3 hy0
  obtain ⟨a1, e1, rfl, w1⟩ := DataW.trod_int Try.underlying3 hy1
  obtain ⟨s, e2, rfl, _⟩ := DataW.trod_string Try.underlying9 hy2
  simp at e0 e1 e2
  subst e0 e1 e2
  exact ⟨_, _, _, rfl⟩
end
end Go.Proofs.Ytlmkcnkidkoilaa.H
set_option linter.unusedVariables false
set_option linter.unusedSimpArgs false
set_option maxRecDepth 100000
namespace Go.Proofs.Ytlmkcnkidkoilaa.H
open Go.ChangeShapes Go.WideShapes Go.ChangeAt Go.RowKit Go.Deep Go.Joins
section
variable {H : Type} {enc : TypeId × Value → H} {w : World} {base : Nat} {spare : Nat → Bool} {held : Bool}
theorem list5 {α : Type} {cs : List α} (h : cs.length = 5) : ∃ a b c d e, cs = [a, b, c, d, e] := by
  match cs, h with
  | [a, b, c, d, e], _ => exact ⟨a, b, c, d, e, rfl⟩
/-- A deed on a disk, as its cells are. -/
structure DDeed where
  kind : Int
  i : Int
  c : UInt8
  v : Value
  l : List Int
  bad : Bool
def DDeed.cells (d : DDeed) : List Value := [.int .i64 d.kind, .int .i64 d.i, .int .u8 (d.c.toNat : Int), d.v, .bool d.bad]
structure DDeed.At (w : World) (d : DDeed) : Prop where
  rd : Rd w 1 d.v d.l.length (d.l.map encZ)
  inl : ∀ x ∈ d.l, inI x
  ini : inI d.i
theorem open_ints_d {fuel : Nat} {cs : List Value} {x : DataW H × List MemPlace} (hf : DataW.trod enc Try.prog w base spare held fuel 31 cs = some x) :
    ∃ (A : Option Addr) (n c : Nat) (l : List Int), cs = [.slice A n c] ∧ n = l.length ∧ Rd w 1 (.slice A n c) n (l.map encZ) ∧ ∀ x ∈ l, inI x := by
  rcases open_ints Try.underlying31 Try.underlying3 (by kernel_rfl) hf with ⟨hcs, _⟩ | ⟨x, n, c, zs, hcs, _, hl, hm, hz, _, hcell, hwz⟩
  · exact ⟨_, _, _, [], hcs, rfl, rd_nil _ _, fun x hx => by cases hx⟩
  · have hzl : n ≤ zs.length := by rw [hz]; split <;> omega
    refine ⟨some x, n, c, zs.take n, hcs, by simp; omega, ?_, fun y hy => hwz y (List.mem_of_mem_take hy)⟩
    refine ⟨by simp; omega, _, _, rfl, hl, by unfold maxLen at hm; omega, ?_⟩
    intro j u hu
    refine ⟨x, rfl, ?_⟩
    simp only [List.getElem?_map] at hu
    have hj : j < n := by
      rcases Nat.lt_or_ge j n with h | h
      · exact h
      · rw [List.getElem?_take, if_neg (by omega)] at hu; simp at hu
    rw [List.getElem?_take, if_pos hj, List.getElem?_eq_getElem (by omega)] at hu
    simp only [Option.map_some, Option.some.injEq] at hu
    rw [hcell j (by omega), ← hu]
    simp [List.getD, List.getElem?_eq_getElem (show j < zs.length by omega)]
end
end Go.Proofs.Ytlmkcnkidkoilaa.H
set_option linter.unusedVariables false
set_option linter.unusedSimpArgs false
set_option maxRecDepth 100000
namespace Go.Proofs.Ytlmkcnkidkoilaa.H
open Go.ChangeShapes Go.WideShapes Go.ChangeAt Go.RowKit Go.Deep Go.Joins
section
variable {H : Type} {enc : TypeId × Value → H} {w : World} {base : Nat} {spare : Nat → Bool} {held : Bool}
def cellsX (ds : List DDeed) : List Value := ds.flatMap DDeed.cells
theorem cellsX_length (ds : List DDeed) : (cellsX ds).length = ds.length * 5 := by
  induction ds with
  | nil => rfl
  | cons d ds ih => simp only [cellsX, List.flatMap_cons, List.length_append, List.length_cons] at ih ⊢; rw [ih]; simp [DDeed.cells]; omega
theorem cellsX_at (ds : List DDeed) (k : Nat) (d : DDeed) (hk : ds[k]? = some d) (j : Nat) (u : Value) (hu : d.cells[j]? = some u) : (cellsX ds)[k * 5 + j]? = some u := by
  induction ds generalizing k with
  | nil => simp at hk
  | cons e ds ih =>
    have h5 : e.cells.length = 5 := rfl
    cases k with
    | zero =>
      simp at hk
      subst hk
      have hj := (List.getElem?_eq_some_iff.1 hu).1
      simp only [cellsX, List.flatMap_cons]
      rw [List.getElem?_append_left (by omega), ← hu]
      congr 1
      omega
    | succ k =>
      simp only [List.getElem?_cons_succ] at hk
      have := ih k hk
      simp only [cellsX, List.flatMap_cons] at this ⊢
      rw [List.getElem?_append_right (by omega), ← this]
      congr 1
      omega
end
end Go.Proofs.Ytlmkcnkidkoilaa.H
set_option linter.unusedVariables false
set_option linter.unusedSimpArgs false
set_option maxRecDepth 100000
namespace Go.Proofs.Ytlmkcnkidkoilaa.H
open Go.ChangeShapes Go.WideShapes Go.ChangeAt Go.RowKit Go.Deep Go.Joins
section
variable {H : Type} {enc : TypeId × Value → H} {w : World} {base : Nat} {spare : Nat → Bool} {held : Bool}
theorem open_intl {r : Reach} {b0 : Nat} {v : Value} {d : DataW H} {p : List MemPlace} (hv : Value.okWide Try.prog w r b0 31 v) (h : DataW.Trod enc Try.prog w base spare held 31 v d p) :
    ∃ (A : Option Addr) (n c : Nat) (l : List Int), v = .slice A n c ∧ n = l.length ∧ Rd w 1 (.slice A n c) n (l.map encZ) ∧ ∀ x ∈ l, inI x := by
  obtain ⟨A, n, c, rfl⟩ := okWide_slice Try.underlying31 hv
  obtain ⟨fuel, hf⟩ := h
  obtain ⟨A', n', c', l, h1, h2, h3, h4⟩ := open_ints_d hf
  simp [Value.cells] at h1
  obtain ⟨rfl, rfl, rfl⟩ := h1
  exact ⟨_, _, _, l, rfl, h2, h3, h4⟩
end
end Go.Proofs.Ytlmkcnkidkoilaa.H
set_option linter.unusedVariables false
set_option linter.unusedSimpArgs false
set_option maxRecDepth 100000
namespace Go.Proofs.Ytlmkcnkidkoilaa.H
open Go.ChangeShapes Go.WideShapes Go.ChangeAt Go.RowKit Go.Deep Go.Joins
section
variable {H : Type} {enc : TypeId × Value → H} {w : World} {base : Nat} {spare : Nat → Bool} {held : Bool}
/-- An item reads so. -/
structure Iv.At (w : World) (x : Iv) : Prop where
  rd : ∃ A c, x.2 = .slice A x.1.deps.length c ∧ Rd w 1 (.slice A x.1.deps.length c) x.1.deps.length (zs x.1.deps)
  inl : ∀ d ∈ x.1.deps, inI d
theorem open_item_at {fuel : Nat} {cs : List Value} {x : DataW H × List MemPlace} (hf : DataW.trod enc Try.prog w base spare held fuel 33 cs = some x) :
    ∃ d : Iv, cs = Iv.cells d ∧ d.At w := by
  obtain ⟨xs, n, _, rfl, hl, hlen, hf⟩ := DataW.trod_struct Try.underlying33 hf
  have hc : Try.prog.cellsOf 33 = 4 := by kernel_rfl
  have hci : Try.prog.cellsOf 3 = 1 := by kernel_rfl
  have hcp : Try.prog.cellsOf 30 = 3 := by kernel_rfl
  have hcl : Try.prog.cellsOf 31 = 1 := by kernel_rfl
  have hcs : Try.prog.cellsOf 9 = 1 := by kernel_rfl
  rw [hc] at hl
  obtain ⟨c0, c1, c2, c3, rfl⟩ : ∃ a b c d, cs = [a, b, c, d] := by
    match cs, hl with
    | [a, b, c, d], _ => exact ⟨a, b, c, d, rfl⟩
  have g3 : DataW.trod enc Try.prog w base spare held n 30 (List.take (Try.prog.cellsOf 30) (List.drop 0 [c0, c1, c2, c3])) = xs[0]? := hf 0 _ rfl
  have g4 : DataW.trod enc Try.prog w base spare held n 31 (List.take (Try.prog.cellsOf 31) (List.drop 3 [c0, c1, c2, c3])) = xs[1]? := hf 1 _ rfl
  simp only [hcp, hcl] at g3 g4
  rw [List.getElem?_eq_getElem (by rw [hlen]; decide)] at g3 g4
  obtain ⟨y0, y1, y2, k', hx, _, h0, h1, h2⟩ := trod_struct3 Try.underlying30 g3
  rw [hci] at h0 h1
  rw [hcs] at h2
  obtain ⟨b0, f0, _, _⟩ := DataW.trod_int Try.underlying3 h0
  obtain ⟨b1, f1, _, _⟩ := DataW.trod_int Try.underlying3 h1
  obtain ⟨s, f2, _, _⟩ := DataW.trod_string Try.underlying9 h2
  obtain ⟨A, n, c, l, h5, rfl, h7, h8⟩ := open_ints_d g4
  simp at f0 f1 f2 h5
  subst f0 f1 f2 h5
  exact ⟨(⟨⟨b0, b1, s⟩, l⟩, _), rfl, ⟨A, c, rfl, h7⟩, h8⟩
theorem open_items_d {fuel : Nat} {cs : List Value} {x : DataW H × List MemPlace} (hf : DataW.trod enc Try.prog w base spare held fuel 22 cs = some x) :
    ∃ (A : Option Addr) (n c : Nat) (ds : List Iv), cs = [.slice A n c] ∧ n = ds.length ∧ Rd w 4 (.slice A n c) n (cellsI ds) ∧ ∀ d ∈ ds, d.At w := by
  rcases open_slice Try.underlying22 hf with ⟨hcs, _⟩ | ⟨a, len, cap, m, k, D, Pl, hcs, _, hl, hm, hmm, _, hi⟩
  · exact ⟨_, _, _, [], hcs, rfl, rd_nil _ _, fun d hd => (by cases hd)⟩
  · have hml : len ≤ m := by rw [hmm]; split <;> omega
    have hc4 : Try.prog.cellsOf 33 = 4 := by kernel_rfl
    have key : ∀ i, i < len → ∃ d : Iv, d.At w ∧ ∀ j u, (Iv.cells d)[j]? = some u → w.cell? (a.add (i * 4 + j)) = some u := by
      intro i hin
      obtain ⟨cs', hc, ht⟩ := hi i (by omega)
      rw [hc4] at hc
      obtain ⟨_, hcl, hat⟩ := World.cells?_some hc
      obtain ⟨d, rfl, hd⟩ := open_item_at ht
      refine ⟨d, hd, fun j u hu => ?_⟩
      have hj : j < 4 := (List.getElem?_eq_some_iff.1 hu).1
      rw [← addr_add, hat j hj, hu]
    have build : ∀ m, m ≤ len → ∃ ds : List Iv, ds.length = m ∧ (∀ d ∈ ds, d.At w) ∧ ∀ j u, (cellsI ds)[j]? = some u → w.cell? (a.add j) = some u := by
      intro m
      induction m with
      | zero => exact fun _ => ⟨[], rfl, (fun d hd => by cases hd), (fun j u hu => by simp [cellsI] at hu)⟩
      | succ m ih =>
        intro hm
        obtain ⟨ds, hl, had, hps⟩ := ih (by omega)
        obtain ⟨d, hd, hcell⟩ := key m (by omega)
        refine ⟨ds ++ [d], by simp [hl], fun x hx => ?_, fun j u hu => ?_⟩
        · rcases List.mem_append.1 hx with hx | hx
          · exact had x hx
          · simp at hx; subst hx; exact hd
        have e : cellsI (ds ++ [d]) = cellsI ds ++ (Iv.cells d) := by simp [cellsI]
        rw [e] at hu
        rcases Nat.lt_or_ge j (cellsI ds).length with hj | hj
        · rw [List.getElem?_append_left hj] at hu
          exact hps j u hu
        · rw [List.getElem?_append_right hj] at hu
          have := hcell _ u hu
          rw [cellsI_length, hl] at hj this
          rwa [show m * 4 + (j - m * 4) = j by omega] at this
    obtain ⟨ds, h1, h2, h3⟩ := build len (Nat.le_refl _)
    exact ⟨_, _, _, ds, hcs, h1.symm, ⟨by rw [cellsI_length, h1], _, _, rfl, hl, by unfold maxLen at hm; omega, fun j u hu => ⟨a, rfl, h3 j u hu⟩⟩, h2⟩
theorem open_items {r : Reach} {b0 : Nat} {v : Value} {d : DataW H} {p : List MemPlace} (hv : Value.okWide Try.prog w r b0 22 v) (h : DataW.Trod enc Try.prog w base spare held 22 v d p) :
    ∃ (A : Option Addr) (n c : Nat) (ds : List Iv), v = .slice A n c ∧ n = ds.length ∧ Rd w 4 (.slice A n c) n (cellsI ds) ∧ ∀ d ∈ ds, d.At w := by
  obtain ⟨A, n, c, rfl⟩ := okWide_slice Try.underlying22 hv
  obtain ⟨fuel, hf⟩ := h
  obtain ⟨A', n', c', l, h1, h2, h3, h4⟩ := open_items_d hf
  simp [Value.cells] at h1
  obtain ⟨rfl, rfl, rfl⟩ := h1
  exact ⟨_, _, _, l, rfl, h2, h3, h4⟩
/-- A deed on an engine, as its cells are. -/
structure EDeed where
  kind : Int
  i : Int
  v : Value
  l : List Iv
  bad : Bool
def EDeed.cells (d : EDeed) : List Value := [.int .i64 d.kind, .int .i64 d.i, d.v, .bool d.bad]
structure EDeed.At (w : World) (d : EDeed) : Prop where
  rd : ∃ A c, d.v = .slice A d.l.length c ∧ Rd w 4 (.slice A d.l.length c) d.l.length (cellsI d.l)
  inl : ∀ x ∈ d.l, Iv.At w x
  ini : inI d.i
theorem open_edeed_at {fuel : Nat} {cs : List Value} {x : DataW H × List MemPlace} (hf : DataW.trod enc Try.prog w base spare held fuel 52 cs = some x) :
    ∃ d : EDeed, cs = d.cells ∧ d.At w := by
  obtain ⟨xs, n, _, rfl, hl, hlen, hf⟩ := DataW.trod_struct Try.underlying52 hf
  have hc : Try.prog.cellsOf 52 = 4 := by kernel_rfl
  have hci : Try.prog.cellsOf 3 = 1 := by kernel_rfl
  have hcl : Try.prog.cellsOf 22 = 1 := by kernel_rfl
  have hcb : Try.prog.cellsOf 4 = 1 := by kernel_rfl
  rw [hc] at hl
  obtain ⟨c0, c1, c2, c3, rfl⟩ : ∃ a b c d, cs = [a, b, c, d] := by
    match cs, hl with
    | [a, b, c, d], _ => exact ⟨a, b, c, d, rfl⟩
  have g0 : DataW.trod enc Try.prog w base spare held n 3 (List.take (Try.prog.cellsOf 3) (List.drop 0 [c0, c1, c2, c3])) = xs[0]? := hf 0 _ rfl
  have g1 : DataW.trod enc Try.prog w base spare held n 3 (List.take (Try.prog.cellsOf 3) (List.drop 1 [c0, c1, c2, c3])) = xs[1]? := hf 1 _ rfl
  have g2 : DataW.trod enc Try.prog w base spare held n 22 (List.take (Try.prog.cellsOf 22) (List.drop 2 [c0, c1, c2, c3])) = xs[2]? := hf 2 _ rfl
  have g3 : DataW.trod enc Try.prog w base spare held n 4 (List.take (Try.prog.cellsOf 4) (List.drop 3 [c0, c1, c2, c3])) = xs[3]? := hf 3 _ rfl
  simp only [hci, hcl, hcb] at g0 g1 g2 g3
  rw [List.getElem?_eq_getElem (by rw [hlen]; decide)] at g0 g1 g2 g3
  obtain ⟨a0, e0, _, w0⟩ := DataW.trod_int Try.underlying3 g0
  obtain ⟨a1, e1, _, w1⟩ := DataW.trod_int Try.underlying3 g1
  obtain ⟨A, n, c, l, h5, rfl, h7, h8⟩ := open_items_d g2
  obtain ⟨b, e4, _⟩ := DataW.trod_bool Try.underlying4 g3
  simp at e0 e1 h5 e4
  subst e0 e1 h5 e4
  exact ⟨⟨a0, a1, _, l, b⟩, rfl, ⟨A, c, rfl, h7⟩, h8, w1⟩
theorem open_edeed {r : Reach} {b0 : Nat} {v : Value} {d : DataW H} {p : List MemPlace} (hv : Value.okWide Try.prog w r b0 52 v) (h : DataW.Trod enc Try.prog w base spare held 52 v d p) :
    ∃ d : EDeed, v = .agg d.cells.toArray ∧ d.At w := by
  obtain ⟨cs, rfl, hsz⟩ := okWide_struct Try.underlying52 hv
  obtain ⟨fuel, hf⟩ := h
  obtain ⟨d, h1, h2⟩ := open_edeed_at hf
  refine ⟨d, ?_, h2⟩
  rw [← h1]
  simp [Value.cells]
end
end Go.Proofs.Ytlmkcnkidkoilaa.H
set_option linter.unusedVariables false
set_option linter.unusedSimpArgs false
set_option maxRecDepth 100000
namespace Go.Proofs.Ytlmkcnkidkoilaa.H
open Go.ChangeShapes Go.WideShapes Go.ChangeAt Go.RowKit Go.Deep Go.Joins
section
variable {H : Type} {enc : TypeId × Value → H} {w : World} {base : Nat} {spare : Nat → Bool} {held : Bool}
theorem open_item_w {fuel : Nat} {cs : List Value} {x : DataW H × List MemPlace} (hf : DataW.trod enc Try.prog w base spare held fuel 33 cs = some x) :
    ∃ d : Iv, cs = Iv.cells d ∧ d.At w ∧ d.1.p.dat.size ∈ x.1.weights Try.prog 33 := by
  obtain ⟨xs, n, _, rfl, hl, hlen, hf⟩ := DataW.trod_struct Try.underlying33 hf
  have hc : Try.prog.cellsOf 33 = 4 := by kernel_rfl
  have hci : Try.prog.cellsOf 3 = 1 := by kernel_rfl
  have hcp : Try.prog.cellsOf 30 = 3 := by kernel_rfl
  have hcl : Try.prog.cellsOf 31 = 1 := by kernel_rfl
  have hcs : Try.prog.cellsOf 9 = 1 := by kernel_rfl
  rw [hc] at hl
  obtain ⟨c0, c1, c2, c3, rfl⟩ : ∃ a b c d, cs = [a, b, c, d] := by
    match cs, hl with
    | [a, b, c, d], _ => exact ⟨a, b, c, d, rfl⟩
  have g3 : DataW.trod enc Try.prog w base spare held n 30 (List.take (Try.prog.cellsOf 30) (List.drop 0 [c0, c1, c2, c3])) = xs[0]? := hf 0 _ rfl
  have g4 : DataW.trod enc Try.prog w base spare held n 31 (List.take (Try.prog.cellsOf 31) (List.drop 3 [c0, c1, c2, c3])) = xs[1]? := hf 1 _ rfl
  simp only [hcp, hcl] at g3 g4
  rw [List.getElem?_eq_getElem (by rw [hlen]; decide)] at g3 g4
  obtain ⟨y0, y1, y2, k', hx, _, h0, h1, h2⟩ := trod_struct3 Try.underlying30 g3
  rw [hci] at h0 h1
  rw [hcs] at h2
  obtain ⟨b0, f0, k0, _⟩ := DataW.trod_int Try.underlying3 h0
  obtain ⟨b1, f1, k1, _⟩ := DataW.trod_int Try.underlying3 h1
  obtain ⟨s, f2, k2, _⟩ := DataW.trod_string Try.underlying9 h2
  obtain ⟨A, n, c, l, h5, rfl, h7, h8⟩ := open_ints_d g4
  simp at f0 f1 f2 h5
  subst f0 f1 f2 h5
  refine ⟨(⟨⟨b0, b1, s⟩, l⟩, _), rfl, ⟨⟨A, c, rfl, h7⟩, h8⟩, ?_⟩
  have e0 : (xs.map (·.1))[0]? = some (DataW.agg [y0.1, y1.1, y2.1]) := by
    rw [List.getElem?_map, List.getElem?_eq_getElem (by rw [hlen]; decide), hx]
    rfl
  show s.size ∈ DataW.weights Try.prog 33 (.agg (xs.map (·.1)))
  unfold DataW.weights
  rw [Try.underlying33]
  refine DataW.weights_mem_each (j := 0) (t := 30) rfl e0 _ ?_
  unfold DataW.weights
  rw [Try.underlying30]
  refine DataW.weights_mem_each (j := 2) (t := 9) rfl rfl _ ?_
  rw [k2]
  unfold DataW.weights
  have hs : s.size = s.data.toList.length := by rw [Array.length_toList]; rfl
  rw [hs]
  exact List.mem_singleton.2 rfl
theorem weights_all {H : Type} {P : Program} {e : TypeId} : ∀ {l : List (DataW H)} {d : DataW H} {n : Nat}, d ∈ l → n ∈ d.weights P e → n ∈ DataW.weightsAll P e l
  | a :: l, d, n, hd, hn => by
    unfold DataW.weightsAll
    rcases List.mem_cons.1 hd with rfl | hd
    · exact List.mem_append_left _ hn
    · exact List.mem_append_right _ (weights_all hd hn)
  | [], _, _, hd, _ => by cases hd
theorem open_items_dw {fuel : Nat} {cs : List Value} {x : DataW H × List MemPlace} (hf : DataW.trod enc Try.prog w base spare held fuel 22 cs = some x) :
    ∃ (A : Option Addr) (n c : Nat) (ds : List Iv), cs = [.slice A n c] ∧ n = ds.length ∧ Rd w 4 (.slice A n c) n (cellsI ds) ∧ ∀ d ∈ ds, d.At w ∧ d.1.p.dat.size ∈ x.1.weights Try.prog 22 := by
  rcases open_slice Try.underlying22 hf with ⟨hcs, _⟩ | ⟨a, len, cap, m, k, D, Pl, hcs, _, hl, hm, hmm, hxx, hi⟩
  · exact ⟨_, _, _, [], hcs, rfl, rd_nil _ _, fun d hd => (by cases hd)⟩
  · have hml : len ≤ m := by rw [hmm]; split <;> omega
    have hc4 : Try.prog.cellsOf 33 = 4 := by kernel_rfl
    have key : ∀ i, i < len → ∃ d : Iv, d.At w ∧ d.1.p.dat.size ∈ (D i).weights Try.prog 33 ∧ ∀ j u, (Iv.cells d)[j]? = some u → w.cell? (a.add (i * 4 + j)) = some u := by
      intro i hin
      obtain ⟨cs', hc, ht⟩ := hi i (by omega)
      rw [hc4] at hc
      obtain ⟨_, hcl, hat⟩ := World.cells?_some hc
      obtain ⟨d, rfl, hd, hwt⟩ := open_item_w ht
      refine ⟨d, hd, hwt, fun j u hu => ?_⟩
      have hj : j < 4 := (List.getElem?_eq_some_iff.1 hu).1
      rw [← addr_add, hat j hj, hu]
    have build : ∀ m, m ≤ len → ∃ ds : List Iv, ds.length = m ∧ (∀ d ∈ ds, d.At w ∧ ∃ i, i < len ∧ d.1.p.dat.size ∈ (D i).weights Try.prog 33) ∧ ∀ j u, (cellsI ds)[j]? = some u → w.cell? (a.add j) = some u := by
      intro m
      induction m with
      | zero => exact fun _ => ⟨[], rfl, (fun d hd => by cases hd), (fun j u hu => by simp [cellsI] at hu)⟩
      | succ m ih =>
        intro hm
        obtain ⟨ds, hl, had, hps⟩ := ih (by omega)
        obtain ⟨d, hd, hwt, hcell⟩ := key m (by omega)
        refine ⟨ds ++ [d], by simp [hl], fun x hx => ?_, fun j u hu => ?_⟩
        · rcases List.mem_append.1 hx with hx | hx
          · exact had x hx
          · simp at hx; subst hx; exact ⟨hd, m, by omega, hwt⟩
        have e : cellsI (ds ++ [d]) = cellsI ds ++ (Iv.cells d) := by simp [cellsI]
        rw [e] at hu
        rcases Nat.lt_or_ge j (cellsI ds).length with hj | hj
        · rw [List.getElem?_append_left hj] at hu
          exact hps j u hu
        · rw [List.getElem?_append_right hj] at hu
          have := hcell _ u hu
          rw [cellsI_length, hl] at hj this
          rwa [show m * 4 + (j - m * 4) = j by omega] at this
    obtain ⟨ds, h1, h2, h3⟩ := build len (Nat.le_refl _)
    refine ⟨_, _, _, ds, hcs, h1.symm, ⟨by rw [cellsI_length, h1], _, _, rfl, hl, by unfold maxLen at hm; omega, fun j u hu => ⟨a, rfl, h3 j u hu⟩⟩, fun d hd => ?_⟩
    obtain ⟨g1, i, g2, g3⟩ := h2 d hd
    refine ⟨g1, ?_⟩
    rw [hxx]
    unfold DataW.weights
    rw [Try.underlying22]
    exact List.mem_cons_of_mem _ (List.mem_append_left _ (weights_all (List.mem_map.2 ⟨i, List.mem_range.2 g2, rfl⟩) g3))
theorem open_itemsw {r : Reach} {b0 : Nat} {v : Value} {d : DataW H} {p : List MemPlace} (hv : Value.okWide Try.prog w r b0 22 v) (h : DataW.Trod enc Try.prog w base spare held 22 v d p) :
    ∃ (A : Option Addr) (n c : Nat) (ds : List Iv), v = .slice A n c ∧ n = ds.length ∧ Rd w 4 (.slice A n c) n (cellsI ds) ∧ ∀ x ∈ ds, x.At w ∧ x.1.p.dat.size ∈ d.weights Try.prog 22 := by
  obtain ⟨A, n, c, rfl⟩ := okWide_slice Try.underlying22 hv
  obtain ⟨fuel, hf⟩ := h
  obtain ⟨A', n', c', l, h1, h2, h3, h4⟩ := open_items_dw hf
  simp [Value.cells] at h1
  obtain ⟨rfl, rfl, rfl⟩ := h1
  exact ⟨_, _, _, l, rfl, h2, h3, h4⟩
theorem size_ok {ts : List TypeId} {ds : List (DataW H)} (h : (DataW.weightsEach Try.prog ts ds).all (· ≤ reachBytes) = true) {t : TypeId} {d : DataW H} {n : Nat} (j : Nat) (ht : ts[j]? = some t) (hd : ds[j]? = some d) (hn : n ∈ d.weights Try.prog t) : n ≤ 140737488355328 := by
  have h1 := List.all_eq_true.1 h n (DataW.weights_mem_each ht hd n hn)
  have h2 : n ≤ reachBytes := by simpa using h1
  exact Nat.le_trans h2 (by decide)
end
end Go.Proofs.Ytlmkcnkidkoilaa.H
set_option linter.unusedVariables false
namespace Go.Proofs.Ytlmkcnkidkoilaa.H
open Go.RowKit
theorem closed_law (w : World) (A0 : Option Addr) (n0 c0 : Nat) (il : List Iv) (h0 : n0 = il.length) (r0 : Rd w 4 (.slice A0 n0 c0) n0 (cellsI il)) (a0 : ∀ x ∈ il, Iv.At w x) (s0 : ∀ x ∈ il, x.1.p.dat.size ≤ 140737488355328) (A1 : Option Addr) (n1 c1 : Nat) (l1 : List UInt8) (h1 : n1 = l1.length) (r1 : Rd w 1 (.slice A1 n1 c1) n1 (bcs l1)) (A2 : Option Addr) (n2 c2 : Nat) (l2 : List Int) (h2 : n2 = l2.length) (r2 : Rd w 1 (.slice A2 n2 c2) n2 (l2.map encZ)) :
    Calls Try.prog 4 #[.slice A0 n0 c0, .slice A1 n1 c1, .slice A2 n2 c2] w (fun e w' => e = .returned (.bool true) ∧ Below w.heap.size w w') := by
  subst h2
  refine (closed_walk w [snap w] (.slice A0 n0 c0) n0 il A1 n1 c1 l1 (.slice A2 l2.length c2) l2 h0 h1 own_snap (fun w' h => rd_snap r0 h (k := 0) rfl) (fun x hx => ?_) (fun w' h => rd_snap r1 h (k := 0) rfl) (fun w' h => rd_snap r2 h (k := 0) rfl) s0).mono ?_
  · obtain ⟨A, c, e, h⟩ := (a0 x hx).rd
    exact ⟨A, c, e, fun w' h' => rd_snap h h' (k := 0) rfl⟩
  · rintro e w' ⟨rfl, hO, hS⟩
    exact ⟨rfl, below_of hO hS⟩
end Go.Proofs.Ytlmkcnkidkoilaa.H
