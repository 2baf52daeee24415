/- Opening a law's arguments: bytes, a patch, patches. Opening a law's argument: a deed on a disk. Opening a law's argument: deeds on a disk. Opening a law's argument: a slice of ints (disk). Opening a law's argument: items, a deed on an engine, deeds. The law's few: at most twelve items, each behind at most twelve. -/
import Derived.Test.YtlmkcnkidkoilaaGreatZ06
import Derived.Test.YtlmkcnkidkoilaaGreatRows
import Derived.WalkKit
import Derived.ProofKit
import Derived.OpenShut
import Derived.Carry
import Derived.Deep.Slices
import Derived.Deep.Fields
import Derived.ChangeSame
import Derived.ChangeOld
import Derived.Lib.SmallJoins
import Derived.Test.YtlmkcnkidkoilaaGreatZ07
import Derived.Test.YtlmkcnkidkoilaaGreatZ19
import Derived.Test.YtlmkcnkidkoilaaGreatZ22
import Derived.Test.YtlmkcnkidkoilaaGreatZ21
set_option linter.unusedVariables false
set_option linter.unusedSimpArgs false
set_option maxRecDepth 100000
namespace Go.Proofs.YtlmkcnkidkoilaaGreat.H
open Go.ChangeShapes Go.WideShapes Go.ChangeAt Go.RowKit Go.Deep Go.Joins
theorem laidOut : laidOutB Tryz.prog = true := by kernel_rfl
theorem ownk : ownKnob Tryz.prog.godebug = none := by kernel_rfl
theorem lt_of_trod {H : Type} {enc : TypeId × Value → H} {P : Program} {w : World} {sp : Nat → Bool} {hd : Bool} {t : TypeId} {v : Value} {d : DataW H} {ps : List MemPlace} (h : DataW.Trod enc P w 0 sp hd t v d ps) : ∀ x ∈ ps, x.block < w.heap.size := by
  obtain ⟨m, hm⟩ := h
  exact DataW.trod_lt m _ _ _ hm
/-- All arguments read as they did, behind a call that wrote nothing that was there. -/
theorem trodAll_below {H : Type} {enc : TypeId × Value → H} {P : Program} {W W' : World} (hl : laidOutB P = true) (hb : Below W.heap.size W W') :
    ∀ (ts : List TypeId) (vs : List Value) (ds : List (DataW H)) (ps : List MemPlace), (ts.all fun t => P.readableRec t && decide (t < P.types.size)) = true → DataW.TrodAll enc P W 0 (fun _ => true) true ts vs ds ps → DataW.TrodAll enc P W' 0 (fun b => decide (b < W.heap.size)) true ts vs ds ps := by
  intro ts
  induction ts with
  | nil =>
    intro vs ds ps _ h
    obtain ⟨rfl, rfl, rfl⟩ := trodAll_nil h
    exact trodAll_mk0
  | cons t ts ih =>
    intro vs ds ps ht h
    simp only [List.all_cons, Bool.and_eq_true, decide_eq_true_eq] at ht
    obtain ⟨v, vs', d, ds', p, q, rfl, rfl, rfl, h1, h2⟩ := trodAll_cons h
    exact trodAll_cons_mk (Below.trod hl ht.1.1 ht.1.2 h1 hb (lt_of_trod h1)) (ih _ _ _ ht.2 h2)
section
variable {H : Type} {enc : TypeId × Value → H} {w : World} {base : Nat} {spare : Nat → Bool} {held : Bool}
def u8s (zs : List Int) : List UInt8 := zs.map fun z => UInt8.ofNat z.toNat
theorem open_bytes {r : Reach} {b0 : Nat} {v : Value} {d : DataW H} {p : List MemPlace} (hv : Value.okWide Tryz.prog w r b0 23 v) (h : DataW.Trod enc Tryz.prog w base spare held 23 v d p) :
    ∃ (A : Option Addr) (n c : Nat) (l : List UInt8), v = .slice A n c ∧ n = l.length ∧ Rd w 1 (.slice A n c) n (bcs l) := by
  obtain ⟨A, n, c, rfl⟩ := okWide_slice Tryz.underlying23 hv
  obtain ⟨fuel, hf⟩ := h
  rcases open_ints Tryz.underlying23 Tryz.underlying5 (by kernel_rfl) hf with ⟨hcs, _⟩ | ⟨x, len, cap, zs, hcs, _, hl, hm, hz, _, hcell, hwz⟩
  · simp [Value.cells] at hcs
    obtain ⟨rfl, rfl, rfl⟩ := hcs
    exact ⟨_, _, _, [], rfl, rfl, rd_nil _ _⟩
  · simp [Value.cells] at hcs
    obtain ⟨rfl, rfl, rfl⟩ := hcs
    have hzl : n ≤ zs.length := by rw [hz]; split <;> omega
    refine ⟨_, _, _, u8s (zs.take n), rfl, by simp [u8s]; omega, ?_, _, _, rfl, hl, by unfold maxLen at hm; omega, ?_⟩
    · simp [bcs_length, u8s]; omega
    · intro j u hu
      refine ⟨x, rfl, ?_⟩
      simp only [bcs, u8s, List.map_map, List.getElem?_map] at hu
      have hj : j < n := by
        rcases Nat.lt_or_ge j n with h | h
        · exact h
        · rw [List.getElem?_take, if_neg (by omega)] at hu; simp at hu
      rw [List.getElem?_take, if_pos hj, List.getElem?_eq_getElem (by omega)] at hu
      simp only [Option.map_some, Option.some.injEq, Function.comp] at hu
      rw [hcell j (by omega), ← hu]
      have hw := hwz (zs[j]'(by omega)) (List.getElem_mem _)
      have hb : 0 ≤ zs[j]'(by omega) ∧ zs[j]'(by omega) ≤ 255 := by simpa [Lit.wf, IntKind.min, IntKind.max, IntKind.signed, IntKind.bits] using hw
      have e : zs.getD j 0 = zs[j]'(by omega) := by simp [List.getD, List.getElem?_eq_getElem (show j < zs.length by omega)]
      rw [e]
      congr 2
      rw [UInt8.toNat_ofNat']
      omega
theorem pat_cells : Tryz.prog.cellsOf 64 = 3 := by kernel_rfl
theorem open_patch {r : Reach} {b0 : Nat} {v : Value} {d : DataW H} {p : List MemPlace} (hv : Value.okWide Tryz.prog w r b0 64 v) (h : DataW.Trod enc Tryz.prog w base spare held 64 v d p) :
    ∃ (a0 a1 : Int) (s : ByteArray), v = .agg #[.int .i64 a0, .int .i64 a1, .string s] := by
  obtain ⟨c0, c1, c2, y0, y1, y2, m, rfl, rfl, rfl, hy0, hy1, hy2⟩ := open_agg3 Tryz.underlying64 (by kernel_rfl) pat_cells hv h
  obtain ⟨a0, e0, rfl, w0⟩ := DataW.trod_int Tryz.underlying3 hy0
  obtain ⟨a1, e1, rfl, w1⟩ := DataW.trod_int Tryz.underlying3 hy1
  obtain ⟨s, e2, rfl, _⟩ := DataW.trod_string Tryz.underlying9 hy2
  simp at e0 e1 e2
  subst e0 e1 e2
  exact ⟨_, _, _, rfl⟩
end
end Go.Proofs.YtlmkcnkidkoilaaGreat.H
set_option linter.unusedVariables false
set_option linter.unusedSimpArgs false
set_option maxRecDepth 100000
namespace Go.Proofs.YtlmkcnkidkoilaaGreat.H
open Go.ChangeShapes Go.WideShapes Go.ChangeAt Go.RowKit Go.Deep Go.Joins
section
variable {H : Type} {enc : TypeId × Value → H} {w : World} {base : Nat} {spare : Nat → Bool} {held : Bool}
theorem list5 {α : Type} {cs : List α} (h : cs.length = 5) : ∃ a b c d e, cs = [a, b, c, d, e] := by
  match cs, h with
  | [a, b, c, d, e], _ => exact ⟨a, b, c, d, e, rfl⟩
/-- A deed on a disk, as its cells are. -/
structure DDeed where
  kind : Int
  i : Int
  c : UInt8
  v : Value
  l : List Int
  bad : Bool
def DDeed.cells (d : DDeed) : List Value := [.int .i64 d.kind, .int .i64 d.i, .int .u8 (d.c.toNat : Int), d.v, .bool d.bad]
structure DDeed.At (w : World) (d : DDeed) : Prop where
  rd : Rd w 1 d.v d.l.length (d.l.map encZ)
  inl : ∀ x ∈ d.l, inI x
  ini : inI d.i
theorem open_ints_d {fuel : Nat} {cs : List Value} {x : DataW H × List MemPlace} (hf : DataW.trod enc Tryz.prog w base spare held fuel 38 cs = some x) :
    ∃ (A : Option Addr) (n c : Nat) (l : List Int), cs = [.slice A n c] ∧ n = l.length ∧ Rd w 1 (.slice A n c) n (l.map encZ) ∧ ∀ x ∈ l, inI x := by
  rcases open_ints Tryz.underlying38 Tryz.underlying3 (by kernel_rfl) hf with ⟨hcs, _⟩ | ⟨x, n, c, zs, hcs, _, hl, hm, hz, _, hcell, hwz⟩
  · exact ⟨_, _, _, [], hcs, rfl, rd_nil _ _, fun x hx => by cases hx⟩
  · have hzl : n ≤ zs.length := by rw [hz]; split <;> omega
    refine ⟨some x, n, c, zs.take n, hcs, by simp; omega, ?_, fun y hy => hwz y (List.mem_of_mem_take hy)⟩
    refine ⟨by simp; omega, _, _, rfl, hl, by unfold maxLen at hm; omega, ?_⟩
    intro j u hu
    refine ⟨x, rfl, ?_⟩
    simp only [List.getElem?_map] at hu
    have hj : j < n := by
      rcases Nat.lt_or_ge j n with h | h
      · exact h
      · rw [List.getElem?_take, if_neg (by omega)] at hu; simp at hu
    rw [List.getElem?_take, if_pos hj, List.getElem?_eq_getElem (by omega)] at hu
    simp only [Option.map_some, Option.some.injEq] at hu
    rw [hcell j (by omega), ← hu]
    simp [List.getD, List.getElem?_eq_getElem (show j < zs.length by omega)]
end
end Go.Proofs.YtlmkcnkidkoilaaGreat.H
set_option linter.unusedVariables false
set_option linter.unusedSimpArgs false
set_option maxRecDepth 100000
namespace Go.Proofs.YtlmkcnkidkoilaaGreat.H
open Go.ChangeShapes Go.WideShapes Go.ChangeAt Go.RowKit Go.Deep Go.Joins
section
variable {H : Type} {enc : TypeId × Value → H} {w : World} {base : Nat} {spare : Nat → Bool} {held : Bool}
def cellsX (ds : List DDeed) : List Value := ds.flatMap DDeed.cells
theorem cellsX_length (ds : List DDeed) : (cellsX ds).length = ds.length * 5 := by
  induction ds with
  | nil => rfl
  | cons d ds ih => simp only [cellsX, List.flatMap_cons, List.length_append, List.length_cons] at ih ⊢; rw [ih]; simp [DDeed.cells]; omega
theorem cellsX_at (ds : List DDeed) (k : Nat) (d : DDeed) (hk : ds[k]? = some d) (j : Nat) (u : Value) (hu : d.cells[j]? = some u) : (cellsX ds)[k * 5 + j]? = some u := by
  induction ds generalizing k with
  | nil => simp at hk
  | cons e ds ih =>
    have h5 : e.cells.length = 5 := rfl
    cases k with
    | zero =>
      simp at hk
      subst hk
      have hj := (List.getElem?_eq_some_iff.1 hu).1
      simp only [cellsX, List.flatMap_cons]
      rw [List.getElem?_append_left (by omega), ← hu]
      congr 1
      omega
    | succ k =>
      simp only [List.getElem?_cons_succ] at hk
      have := ih k hk
      simp only [cellsX, List.flatMap_cons] at this ⊢
      rw [List.getElem?_append_right (by omega), ← this]
      congr 1
      omega
end
end Go.Proofs.YtlmkcnkidkoilaaGreat.H
set_option linter.unusedVariables false
set_option linter.unusedSimpArgs false
set_option maxRecDepth 100000
namespace Go.Proofs.YtlmkcnkidkoilaaGreat.H
open Go.ChangeShapes Go.WideShapes Go.ChangeAt Go.RowKit Go.Deep Go.Joins
section
variable {H : Type} {enc : TypeId × Value → H} {w : World} {base : Nat} {spare : Nat → Bool} {held : Bool}
theorem open_intl {r : Reach} {b0 : Nat} {v : Value} {d : DataW H} {p : List MemPlace} (hv : Value.okWide Tryz.prog w r b0 38 v) (h : DataW.Trod enc Tryz.prog w base spare held 38 v d p) :
    ∃ (A : Option Addr) (n c : Nat) (l : List Int), v = .slice A n c ∧ n = l.length ∧ Rd w 1 (.slice A n c) n (l.map encZ) ∧ ∀ x ∈ l, inI x := by
  obtain ⟨A, n, c, rfl⟩ := okWide_slice Tryz.underlying38 hv
  obtain ⟨fuel, hf⟩ := h
  obtain ⟨A', n', c', l, h1, h2, h3, h4⟩ := open_ints_d hf
  simp [Value.cells] at h1
  obtain ⟨rfl, rfl, rfl⟩ := h1
  exact ⟨_, _, _, l, rfl, h2, h3, h4⟩
end
end Go.Proofs.YtlmkcnkidkoilaaGreat.H
set_option linter.unusedVariables false
set_option linter.unusedSimpArgs false
set_option maxRecDepth 100000
namespace Go.Proofs.YtlmkcnkidkoilaaGreat.H
open Go.ChangeShapes Go.WideShapes Go.ChangeAt Go.RowKit Go.Deep Go.Joins
section
variable {H : Type} {enc : TypeId × Value → H} {w : World} {base : Nat} {spare : Nat → Bool} {held : Bool}
/-- An item reads so. -/
structure Iv.At (w : World) (x : Iv) : Prop where
  rd : ∃ A c, x.2 = .slice A x.1.deps.length c ∧ Rd w 1 (.slice A x.1.deps.length c) x.1.deps.length (zs x.1.deps)
  inl : ∀ d ∈ x.1.deps, inI d
theorem open_item_at {fuel : Nat} {cs : List Value} {x : DataW H × List MemPlace} (hf : DataW.trod enc Tryz.prog w base spare held fuel 66 cs = some x) :
    ∃ d : Iv, cs = Iv.cells d ∧ d.At w := by
  obtain ⟨xs, n, _, rfl, hl, hlen, hf⟩ := DataW.trod_struct Tryz.underlying66 hf
  have hc : Tryz.prog.cellsOf 66 = 4 := by kernel_rfl
  have hci : Tryz.prog.cellsOf 3 = 1 := by kernel_rfl
  have hcp : Tryz.prog.cellsOf 64 = 3 := by kernel_rfl
  have hcl : Tryz.prog.cellsOf 38 = 1 := by kernel_rfl
  have hcs : Tryz.prog.cellsOf 9 = 1 := by kernel_rfl
  rw [hc] at hl
  obtain ⟨c0, c1, c2, c3, rfl⟩ : ∃ a b c d, cs = [a, b, c, d] := by
    match cs, hl with
    | [a, b, c, d], _ => exact ⟨a, b, c, d, rfl⟩
  have g3 : DataW.trod enc Tryz.prog w base spare held n 64 (List.take (Tryz.prog.cellsOf 64) (List.drop 0 [c0, c1, c2, c3])) = xs[0]? := hf 0 _ rfl
  have g4 : DataW.trod enc Tryz.prog w base spare held n 38 (List.take (Tryz.prog.cellsOf 38) (List.drop 3 [c0, c1, c2, c3])) = xs[1]? := hf 1 _ rfl
  simp only [hcp, hcl] at g3 g4
  rw [List.getElem?_eq_getElem (by rw [hlen]; decide)] at g3 g4
  obtain ⟨y0, y1, y2, k', hx, _, h0, h1, h2⟩ := trod_struct3 Tryz.underlying64 g3
  rw [hci] at h0 h1
  rw [hcs] at h2
  obtain ⟨b0, f0, _, _⟩ := DataW.trod_int Tryz.underlying3 h0
  obtain ⟨b1, f1, _, _⟩ := DataW.trod_int Tryz.underlying3 h1
  obtain ⟨s, f2, _, _⟩ := DataW.trod_string Tryz.underlying9 h2
  obtain ⟨A, n, c, l, h5, rfl, h7, h8⟩ := open_ints_d g4
  simp at f0 f1 f2 h5
  subst f0 f1 f2 h5
  exact ⟨(⟨⟨b0, b1, s⟩, l⟩, _), rfl, ⟨A, c, rfl, h7⟩, h8⟩
theorem open_items_d {fuel : Nat} {cs : List Value} {x : DataW H × List MemPlace} (hf : DataW.trod enc Tryz.prog w base spare held fuel 49 cs = some x) :
    ∃ (A : Option Addr) (n c : Nat) (ds : List Iv), cs = [.slice A n c] ∧ n = ds.length ∧ Rd w 4 (.slice A n c) n (cellsI ds) ∧ ∀ d ∈ ds, d.At w := by
  rcases open_slice Tryz.underlying49 hf with ⟨hcs, _⟩ | ⟨a, len, cap, m, k, D, Pl, hcs, _, hl, hm, hmm, _, hi⟩
  · exact ⟨_, _, _, [], hcs, rfl, rd_nil _ _, fun d hd => (by cases hd)⟩
  · have hml : len ≤ m := by rw [hmm]; split <;> omega
    have hc4 : Tryz.prog.cellsOf 66 = 4 := by kernel_rfl
    have key : ∀ i, i < len → ∃ d : Iv, d.At w ∧ ∀ j u, (Iv.cells d)[j]? = some u → w.cell? (a.add (i * 4 + j)) = some u := by
      intro i hin
      obtain ⟨cs', hc, ht⟩ := hi i (by omega)
      rw [hc4] at hc
      obtain ⟨_, hcl, hat⟩ := World.cells?_some hc
      obtain ⟨d, rfl, hd⟩ := open_item_at ht
      refine ⟨d, hd, fun j u hu => ?_⟩
      have hj : j < 4 := (List.getElem?_eq_some_iff.1 hu).1
      rw [← addr_add, hat j hj, hu]
    have build : ∀ m, m ≤ len → ∃ ds : List Iv, ds.length = m ∧ (∀ d ∈ ds, d.At w) ∧ ∀ j u, (cellsI ds)[j]? = some u → w.cell? (a.add j) = some u := by
      intro m
      induction m with
      | zero => exact fun _ => ⟨[], rfl, (fun d hd => by cases hd), (fun j u hu => by simp [cellsI] at hu)⟩
      | succ m ih =>
        intro hm
        obtain ⟨ds, hl, had, hps⟩ := ih (by omega)
        obtain ⟨d, hd, hcell⟩ := key m (by omega)
        refine ⟨ds ++ [d], by simp [hl], fun x hx => ?_, fun j u hu => ?_⟩
        · rcases List.mem_append.1 hx with hx | hx
          · exact had x hx
          · simp at hx; subst hx; exact hd
        have e : cellsI (ds ++ [d]) = cellsI ds ++ (Iv.cells d) := by simp [cellsI]
        rw [e] at hu
        rcases Nat.lt_or_ge j (cellsI ds).length with hj | hj
        · rw [List.getElem?_append_left hj] at hu
          exact hps j u hu
        · rw [List.getElem?_append_right hj] at hu
          have := hcell _ u hu
          rw [cellsI_length, hl] at hj this
          rwa [show m * 4 + (j - m * 4) = j by omega] at this
    obtain ⟨ds, h1, h2, h3⟩ := build len (Nat.le_refl _)
    exact ⟨_, _, _, ds, hcs, h1.symm, ⟨by rw [cellsI_length, h1], _, _, rfl, hl, by unfold maxLen at hm; omega, fun j u hu => ⟨a, rfl, h3 j u hu⟩⟩, h2⟩
theorem open_items {r : Reach} {b0 : Nat} {v : Value} {d : DataW H} {p : List MemPlace} (hv : Value.okWide Tryz.prog w r b0 49 v) (h : DataW.Trod enc Tryz.prog w base spare held 49 v d p) :
    ∃ (A : Option Addr) (n c : Nat) (ds : List Iv), v = .slice A n c ∧ n = ds.length ∧ Rd w 4 (.slice A n c) n (cellsI ds) ∧ ∀ d ∈ ds, d.At w := by
  obtain ⟨A, n, c, rfl⟩ := okWide_slice Tryz.underlying49 hv
  obtain ⟨fuel, hf⟩ := h
  obtain ⟨A', n', c', l, h1, h2, h3, h4⟩ := open_items_d hf
  simp [Value.cells] at h1
  obtain ⟨rfl, rfl, rfl⟩ := h1
  exact ⟨_, _, _, l, rfl, h2, h3, h4⟩
/-- A deed on an engine, as its cells are. -/
structure EDeed where
  kind : Int
  i : Int
  v : Value
  l : List Iv
  bad : Bool
def EDeed.cells (d : EDeed) : List Value := [.int .i64 d.kind, .int .i64 d.i, d.v, .bool d.bad]
structure EDeed.At (w : World) (d : EDeed) : Prop where
  rd : ∃ A c, d.v = .slice A d.l.length c ∧ Rd w 4 (.slice A d.l.length c) d.l.length (cellsI d.l)
  inl : ∀ x ∈ d.l, Iv.At w x
  ini : inI d.i
theorem open_edeed_at {fuel : Nat} {cs : List Value} {x : DataW H × List MemPlace} (hf : DataW.trod enc Tryz.prog w base spare held fuel 56 cs = some x) :
    ∃ d : EDeed, cs = d.cells ∧ d.At w := by
  obtain ⟨xs, n, _, rfl, hl, hlen, hf⟩ := DataW.trod_struct Tryz.underlying56 hf
  have hc : Tryz.prog.cellsOf 56 = 4 := by kernel_rfl
  have hci : Tryz.prog.cellsOf 3 = 1 := by kernel_rfl
  have hcl : Tryz.prog.cellsOf 49 = 1 := by kernel_rfl
  have hcb : Tryz.prog.cellsOf 4 = 1 := by kernel_rfl
  rw [hc] at hl
  obtain ⟨c0, c1, c2, c3, rfl⟩ : ∃ a b c d, cs = [a, b, c, d] := by
    match cs, hl with
    | [a, b, c, d], _ => exact ⟨a, b, c, d, rfl⟩
  have g0 : DataW.trod enc Tryz.prog w base spare held n 3 (List.take (Tryz.prog.cellsOf 3) (List.drop 0 [c0, c1, c2, c3])) = xs[0]? := hf 0 _ rfl
  have g1 : DataW.trod enc Tryz.prog w base spare held n 3 (List.take (Tryz.prog.cellsOf 3) (List.drop 1 [c0, c1, c2, c3])) = xs[1]? := hf 1 _ rfl
  have g2 : DataW.trod enc Tryz.prog w base spare held n 49 (List.take (Tryz.prog.cellsOf 49) (List.drop 2 [c0, c1, c2, c3])) = xs[2]? := hf 2 _ rfl
  have g3 : DataW.trod enc Tryz.prog w base spare held n 4 (List.take (Tryz.prog.cellsOf 4) (List.drop 3 [c0, c1, c2, c3])) = xs[3]? := hf 3 _ rfl
  simp only [hci, hcl, hcb] at g0 g1 g2 g3
  rw [List.getElem?_eq_getElem (by rw [hlen]; decide)] at g0 g1 g2 g3
  obtain ⟨a0, e0, _, w0⟩ := DataW.trod_int Tryz.underlying3 g0
  obtain ⟨a1, e1, _, w1⟩ := DataW.trod_int Tryz.underlying3 g1
  obtain ⟨A, n, c, l, h5, rfl, h7, h8⟩ := open_items_d g2
  obtain ⟨b, e4, _⟩ := DataW.trod_bool Tryz.underlying4 g3
  simp at e0 e1 h5 e4
  subst e0 e1 h5 e4
  exact ⟨⟨a0, a1, _, l, b⟩, rfl, ⟨A, c, rfl, h7⟩, h8, w1⟩
theorem open_edeed {r : Reach} {b0 : Nat} {v : Value} {d : DataW H} {p : List MemPlace} (hv : Value.okWide Tryz.prog w r b0 56 v) (h : DataW.Trod enc Tryz.prog w base spare held 56 v d p) :
    ∃ d : EDeed, v = .agg d.cells.toArray ∧ d.At w := by
  obtain ⟨cs, rfl, hsz⟩ := okWide_struct Tryz.underlying56 hv
  obtain ⟨fuel, hf⟩ := h
  obtain ⟨d, h1, h2⟩ := open_edeed_at hf
  refine ⟨d, ?_, h2⟩
  rw [← h1]
  simp [Value.cells]
end
end Go.Proofs.YtlmkcnkidkoilaaGreat.H
set_option linter.unusedVariables false
set_option linter.unusedSimpArgs false
set_option maxRecDepth 100000
namespace Go.Proofs.YtlmkcnkidkoilaaGreat.H
open Go.RowKit
theorem info_item3 : (Tryz.prog.info? 66).map (fun i => (i.zero, i.size, i.bytes)) = some (some (.agg #[.int .i64 0, .int .i64 0, .string ⟨#[]⟩, .slice none 0 0]), 4, 56) := by kernel_rfl
def cutV : Value → Value
  | .slice A n c => if 12 < n then .slice A 12 c else .slice A n c
  | v => v
def cutT (x : It) : It := ⟨x.p, x.deps.take 12⟩
def cutI (x : Iv) : Iv := (cutT x.1, cutV x.2)
def fewT (l : List It) : List It := (l.take 12).map cutT
def fewI (l : List Iv) : List Iv := (l.take 12).map cutI
theorem few_map (l : List Iv) : (fewI l).map (·.1) = fewT (l.map (·.1)) := by
  unfold fewI fewT
  rw [← List.map_take, List.map_map, List.map_map]
  rfl
theorem few_len (l : List Iv) : (fewI l).length ≤ 12 := by
  unfold fewI
  rw [List.length_map, List.length_take]
  exact Nat.min_le_left _ _
theorem few_deps {l : List It} {x : It} (h : x ∈ fewT l) : x.deps.length ≤ 12 := by
  obtain ⟨y, _, rfl⟩ := List.mem_map.1 h
  show (y.deps.take 12).length ≤ 12
  rw [List.length_take]
  exact Nat.min_le_left _ _
/-- What a cut item reads as. -/
theorem cut_rd {w : World} {x : Iv} (h : ∃ A c, x.2 = .slice A x.1.deps.length c ∧ Rd w 1 (.slice A x.1.deps.length c) x.1.deps.length (zs x.1.deps)) : ∃ A c, (cutI x).2 = .slice A (cutI x).1.deps.length c ∧ Rd w 1 (.slice A (cutI x).1.deps.length c) (cutI x).1.deps.length (zs (cutI x).1.deps) := by
  obtain ⟨A, c, e, hr⟩ := h
  by_cases h12 : 12 < x.1.deps.length
  · have hl : (cutI x).1.deps.length = 12 := by
      show (x.1.deps.take 12).length = 12
      rw [List.length_take]; omega
    have hmx := hr.max
    refine ⟨A, c, ?_, ?_⟩
    · rw [hl]
      show cutV x.2 = _
      rw [e]
      show (if 12 < x.1.deps.length then _ else _) = _
      rw [if_pos h12]
    · rw [hl]
      have h1 := hr.low (k := 12) (c' := c) (by omega) (by omega) hmx.2
      have e2 : zs (cutI x).1.deps = (zs x.1.deps).take (12 * 1) := by
        show zs (x.1.deps.take 12) = _
        unfold zs
        rw [Nat.mul_one, List.map_take]
      rw [e2]
      exact h1
  · have e2 : (cutI x).1.deps = x.1.deps := List.take_of_length_le (by omega)
    refine ⟨A, c, ?_, ?_⟩
    · rw [e2]
      show cutV x.2 = _
      rw [e]
      show (if 12 < x.1.deps.length then _ else _) = _
      rw [if_neg h12]
    · rw [e2]
      exact hr
theorem cut_one (x : Iv) (h : x.2.oneCell' = true) : (cutI x).2.oneCell' = true := by
  obtain ⟨y, v⟩ := x
  show (cutV v).oneCell' = true
  cases v <;> first | exact h | (simp only [cutV]; split <;> rfl)
theorem item_one (x : It) (v : Value) (h : v.oneCell' = true) : ∀ u ∈ [Value.int .i64 x.p.blk, .int .i64 x.p.off, .string x.p.dat, v], u.oneCell' = true := by
  intro u hu
  simp only [List.mem_cons, List.not_mem_nil, or_false] at hu
  rcases hu with rfl | rfl | rfl | rfl
  · rfl
  · rfl
  · rfl
  · exact h
theorem cellsI_snoc (l : List Iv) (x : Iv) : cellsI (l ++ [x]) = cellsI l ++ [.int .i64 x.1.p.blk, .int .i64 x.1.p.off, .string x.1.p.dat, x.2] := by
  simp [cellsI, Iv.cells]
section
variable (w : World) (L : List HP)
set_option maxHeartbeats 3200000 in
theorem few_c (A : Option Addr) (n c : Nat) (is : List Iv) (hO : Own w L) (hn : n = is.length) (hrd : ∀ w', Own w' L → Rd w' 4 (.slice A n c) n (cellsI is)) (hdep : ∀ x ∈ is, ∃ A c, x.2 = .slice A x.1.deps.length c ∧ ∀ w', Own w' L → Rd w' 1 (.slice A x.1.deps.length c) x.1.deps.length (zs x.1.deps)) :
    Calls Tryz.prog 23 #[.slice A n c] w (RetX w (fun v : Value => v) (fun v => owns 66 4 v (fewI is).length (cellsI (fewI is)) :: L)) := by
  obtain ⟨kl, hkl⟩ : ∃ kl, kl = is.take 12 := ⟨_, rfl⟩
  have HKE := Lib.hid hkl
  have HKL : Hid (kl.length ≤ 12) := by show _ ≤ _; rw [hkl, List.length_take]; omega
  have HDEP : Hid (∀ x ∈ kl, ∃ A c, x.2 = .slice A x.1.deps.length c ∧ ∀ w', Own w' L → Rd w' 1 (.slice A x.1.deps.length c) x.1.deps.length (zs x.1.deps)) := Lib.hid fun x hx => hdep x (List.mem_of_mem_take (by rw [← hkl]; exact hx))
  have hmx := (hrd w hO).max
  have hS := Same.refl w
  subst hn
  by_cases h12 : 12 < is.length
  · have HM : Hid (kl.length = 12) := by show _ = _; rw [hkl, List.length_take]; omega
    obtain ⟨ad, e1⟩ := (hrd w hO).addr (by rw [cellsI_length]; omega)
    subst e1
    have HKR : Hid (∀ w', Own w' L → Rd w' 4 (.slice (some ad) 12 c) 12 (cellsI kl)) := Lib.hid fun w' h => by
      have h1 := (hrd w' h).low (k := 12) (c' := c) (by omega) (by omega) hmx.2
      have e2 : (cellsI is).take (12 * 4) = cellsI kl := by
        have e3 : cellsI is = cellsI (is.take 12) ++ cellsI (is.drop 12) := by rw [← cellsI_app, List.take_append_drop]
        have e4 : (cellsI (is.take 12)).length = 12 * 4 := by rw [cellsI_length, List.length_take]; omega
        rw [hkl, e3, ← e4, List.take_left]
      rwa [e2] at h1
    have hg : (12 : Int) < is.length := by omega
    clear hkl hrd hdep
    go_enter Tryz.func23, Tryz.ntmps23
    go_wp2
    go_loopw [3, 4] (fun ov iv wr => ∃ k : Nat, k ≤ kl.length ∧ iv = .int .i64 k ∧ Own wr (owns 66 4 ov k (cellsI ((kl.take k).map cutI)) :: L) ∧ Same w wr) (fun _ iv _ => kl.length - (intOf iv).toNat)
    case atStart => exact ⟨0, Nat.zero_le _, rfl, owns_nil hO, hS⟩
    case round =>
      clear hO hS
      obtain ⟨k, hk, rfl, hO, hS⟩ := hrel
      by_cases hlt : k < kl.length
      · obtain ⟨⟨x, xv⟩, hx⟩ : ∃ x, kl[k]? = some x := ⟨_, List.getElem?_eq_getElem hlt⟩
        obtain ⟨DA, dc, e2, hdr⟩ := HDEP.out _ (List.mem_of_getElem? hx)
        have e2 : xv = .slice DA x.deps.length dc := e2
        subst e2
        have hdr : ∀ w', Own w' L → Rd w' 1 (.slice DA x.deps.length dc) x.deps.length (zs x.deps) := hdr
        have hdm := (hdr wr (own_drop hO)).max
        have HNOW := Lib.hid hO
        obtain ⟨ad, e1⟩ := (HKR.out _ (own_drop hO)).addr (by rw [cellsI_length]; omega)
        cases e1
        have hO := HNOW.out
        have HC : Hid (∀ (j : Nat) (u : Value), (Iv.cells (x, .slice DA x.deps.length dc))[j]? = some u → wr.cell? ((ad.add (k * 4)).add j) = some u) := item_cells (HKR.out wr (own_drop hO)) hx
        have HK12 : Hid (k ≤ 12) := by have := HKL.out; show _ ≤ _; omega
        have hm1 : (k : Int) < (12 : Int) := by have := HM.out; omega
        by_cases h12 : 12 < x.deps.length
        · have HNX : Hid (cellsI ((kl.take (k + 1)).map cutI) = cellsI ((kl.take k).map cutI) ++ [.int .i64 x.p.blk, .int .i64 x.p.off, .string x.p.dat, .slice DA 12 dc]) := by
            show _ = _
            rw [List.take_add_one, hx, Option.toList_some, List.map_append, List.map_singleton, cellsI_snoc]
            have e9 : (cutI (x, .slice DA x.deps.length dc)).2 = .slice DA 12 dc := by
              show (if 12 < x.deps.length then _ else _) = _
              rw [if_pos h12]
            rw [e9]
            rfl
          obtain ⟨dad, e5⟩ := (hdr wr (own_drop hO)).addr (by unfold zs; rw [List.length_map]; omega)
          subst e5
          have hg1 : (12 : Int) < x.deps.length := by omega
          clear hx hdr HNOW
          go_upto_region 8 with (first | (refine own_loadrow_at (ad := ad.add (k * 4)) (vs := Iv.cells (x, .slice (some dad) x.deps.length dc)) rfl rfl rfl row_item sz_item rfl HC.out ?_) | (refine own_alloc (T := 66) rfl rfl zero_item rfl hO ?_; clear hO; intro gx u hO hSn; replace hS := hS.trans hSn; clear hSn) | (apply own_store_all (k := 0) rfl rfl rfl rfl sz_item hO rfl; (focus rfl); (focus rfl); (focus rfl); clear hO; intro u hO hSn; replace hS := hS.trans hSn; clear hSn; simp only [List.set_cons_zero, List.set_cons_succ] at hO))
          go_upto_region 10 with (first | (refine own_load1 (b := gx) (off := 3) (cs := (Iv.cells (x, .slice (some dad) x.deps.length dc)).toArray) (t := 66) (v := .slice (some dad) x.deps.length dc) rfl rfl rfl row_zs (own_get 0 hO rfl) rfl ?_) | (refine own_store1 (k := 0) (b := gx) (off := 3) (cs' := (Iv.cells (x, .slice (some dad) 12 dc)).toArray) rfl rfl rfl rfl sz_zs hO rfl rfl (by show 3 < 4; decide) rfl ?_; clear hO; intro u hO hSn; replace hS := hS.trans hSn; clear hSn; simp only [List.set_cons_zero, List.set_cons_succ] at hO))
          have hO := own_perm hO (List.Perm.swap _ _ _)
          go_wp2_with (first | (refine own_loadrow (b := gx) (off := 0) (cs := (Iv.cells (x, .slice (some dad) 12 dc)).toArray) (t := 66) (vs := [.int .i64 x.p.blk, .int .i64 x.p.off, .string x.p.dat, .slice (some dad) 12 dc]) rfl rfl rfl row_item sz_item (own_get 1 hO rfl) (by simp [Iv.cells]) (by rfl) ?_) | (refine own_append (m := 1) (n := k) (xs := (cellsI ((kl.take k).map cutI))) (news := [.int .i64 x.p.blk, .int .i64 x.p.off, .string x.p.dat, .slice (some dad) 12 dc]) rfl rfl rfl rfl Tryz.underlying49 info_item3 rfl (by decide) (own_perm (own_alloc_new hO (.cells #[.int .i64 x.p.blk, .int .i64 x.p.off, .string x.p.dat, .slice (some dad) 12 dc] 66)) (List.Perm.swap _ _ _)) ?_ (item_one x _ rfl) ?_ ?_ ?_; (exact rd_block (own_get 1 (own_perm (own_alloc_new hO (.cells #[.int .i64 x.p.blk, .int .i64 x.p.off, .string x.p.dat, .slice (some dad) 12 dc] 66)) (List.Perm.swap _ _ _)) rfl) rfl (by simp) (by simp) (by simp)); (have := HK12.out; unfold maxLen; omega); (have := HK12.out; omega); clear hO; intro v' w9 hO hS9 hv'))
          go_roundw
          case rel => exact ⟨k + 1, by omega, by go_num, by rw [HNX.out]; exact own_skip (own_skip hO), hS.trans ((Same.alloc _ _).trans hS9)⟩
          case measure => simp [intOf]; omega
        · have HNX : Hid (cellsI ((kl.take (k + 1)).map cutI) = cellsI ((kl.take k).map cutI) ++ [.int .i64 x.p.blk, .int .i64 x.p.off, .string x.p.dat, .slice DA x.deps.length dc]) := by
            show _ = _
            rw [List.take_add_one, hx, Option.toList_some, List.map_append, List.map_singleton, cellsI_snoc]
            have e9 : (cutI (x, .slice DA x.deps.length dc)).2 = .slice DA x.deps.length dc := by
              show (if 12 < x.deps.length then _ else _) = _
              rw [if_neg h12]
            rw [e9]
            rfl
          have hg1 : ¬ ((12 : Int) < x.deps.length) := by omega
          clear hx hdr HNOW
          go_upto_region 8 with (first | (refine own_loadrow_at (ad := ad.add (k * 4)) (vs := Iv.cells (x, .slice DA x.deps.length dc)) rfl rfl rfl row_item sz_item rfl HC.out ?_) | (refine own_alloc (T := 66) rfl rfl zero_item rfl hO ?_; clear hO; intro gx u hO hSn; replace hS := hS.trans hSn; clear hSn) | (apply own_store_all (k := 0) rfl rfl rfl rfl sz_item hO rfl; (focus rfl); (focus rfl); (focus rfl); clear hO; intro u hO hSn; replace hS := hS.trans hSn; clear hSn; simp only [List.set_cons_zero, List.set_cons_succ] at hO))
          go_upto_region 10 with (first | (refine own_load1 (b := gx) (off := 3) (cs := (Iv.cells (x, .slice DA x.deps.length dc)).toArray) (t := 66) (v := .slice DA x.deps.length dc) rfl rfl rfl row_zs (own_get 0 hO rfl) rfl ?_))
          have hO := own_perm hO (List.Perm.swap _ _ _)
          go_wp2_with (first | (refine own_loadrow (b := gx) (off := 0) (cs := (Iv.cells (x, .slice DA x.deps.length dc)).toArray) (t := 66) (vs := [.int .i64 x.p.blk, .int .i64 x.p.off, .string x.p.dat, .slice DA x.deps.length dc]) rfl rfl rfl row_item sz_item (own_get 1 hO rfl) (by simp [Iv.cells]) (by rfl) ?_) | (refine own_append (m := 1) (n := k) (xs := (cellsI ((kl.take k).map cutI))) (news := [.int .i64 x.p.blk, .int .i64 x.p.off, .string x.p.dat, .slice DA x.deps.length dc]) rfl rfl rfl rfl Tryz.underlying49 info_item3 rfl (by decide) (own_perm (own_alloc_new hO (.cells #[.int .i64 x.p.blk, .int .i64 x.p.off, .string x.p.dat, .slice DA x.deps.length dc] 66)) (List.Perm.swap _ _ _)) ?_ (item_one x _ rfl) ?_ ?_ ?_; (exact rd_block (own_get 1 (own_perm (own_alloc_new hO (.cells #[.int .i64 x.p.blk, .int .i64 x.p.off, .string x.p.dat, .slice DA x.deps.length dc] 66)) (List.Perm.swap _ _ _)) rfl) rfl (by simp) (by simp) (by simp)); (have := HK12.out; unfold maxLen; omega); (have := HK12.out; omega); clear hO; intro v' w9 hO hS9 hv'))
          go_roundw
          case rel => exact ⟨k + 1, by omega, by go_num, by rw [HNX.out]; exact own_skip (own_skip hO), hS.trans ((Same.alloc _ _).trans hS9)⟩
          case measure => simp [intOf]; omega
      · have hke : k = kl.length := by omega
        have hm1 : ¬ ((k : Int) < (12 : Int)) := by have := HM.out; omega
        have HX : Hid (k = (fewI is).length ∧ cellsI ((kl.take k).map cutI) = cellsI (fewI is)) := by
          refine ⟨?_, ?_⟩
          · rw [hke]; unfold fewI; rw [List.length_map, HKE.out]
          · rw [hke, List.take_length, HKE.out]; rfl
        clear hke
        rw [HX.out.2] at hO
        go_wp2
        go_ret
        exact ⟨_, rfl, by rw [← HX.out.1]; exact hO, hS⟩
  · have HM : Hid (kl.length = is.length) := by show _ = _; rw [hkl, List.length_take]; omega
    have HKR : Hid (∀ w', Own w' L → Rd w' 4 (.slice A is.length c) is.length (cellsI kl)) := Lib.hid fun w' h => by
      rw [hkl, List.take_of_length_le (by omega)]
      exact hrd w' h
    have hg : ¬ ((12 : Int) < is.length) := by omega
    clear hkl hrd hdep
    go_enter Tryz.func23, Tryz.ntmps23
    go_wp2
    go_loopw [3, 4] (fun ov iv wr => ∃ k : Nat, k ≤ kl.length ∧ iv = .int .i64 k ∧ Own wr (owns 66 4 ov k (cellsI ((kl.take k).map cutI)) :: L) ∧ Same w wr) (fun _ iv _ => kl.length - (intOf iv).toNat)
    case atStart => exact ⟨0, Nat.zero_le _, rfl, owns_nil hO, hS⟩
    case round =>
      clear hO hS
      obtain ⟨k, hk, rfl, hO, hS⟩ := hrel
      by_cases hlt : k < kl.length
      · obtain ⟨⟨x, xv⟩, hx⟩ : ∃ x, kl[k]? = some x := ⟨_, List.getElem?_eq_getElem hlt⟩
        obtain ⟨DA, dc, e2, hdr⟩ := HDEP.out _ (List.mem_of_getElem? hx)
        have e2 : xv = .slice DA x.deps.length dc := e2
        subst e2
        have hdr : ∀ w', Own w' L → Rd w' 1 (.slice DA x.deps.length dc) x.deps.length (zs x.deps) := hdr
        have hdm := (hdr wr (own_drop hO)).max
        have HNOW := Lib.hid hO
        obtain ⟨ad, e1⟩ := (HKR.out _ (own_drop hO)).addr (by rw [cellsI_length]; omega)
        cases e1
        have hO := HNOW.out
        have HC : Hid (∀ (j : Nat) (u : Value), (Iv.cells (x, .slice DA x.deps.length dc))[j]? = some u → wr.cell? ((ad.add (k * 4)).add j) = some u) := item_cells (HKR.out wr (own_drop hO)) hx
        have HK12 : Hid (k ≤ 12) := by have := HKL.out; show _ ≤ _; omega
        have hm1 : (k : Int) < (is.length : Int) := by have := HM.out; omega
        by_cases h12 : 12 < x.deps.length
        · have HNX : Hid (cellsI ((kl.take (k + 1)).map cutI) = cellsI ((kl.take k).map cutI) ++ [.int .i64 x.p.blk, .int .i64 x.p.off, .string x.p.dat, .slice DA 12 dc]) := by
            show _ = _
            rw [List.take_add_one, hx, Option.toList_some, List.map_append, List.map_singleton, cellsI_snoc]
            have e9 : (cutI (x, .slice DA x.deps.length dc)).2 = .slice DA 12 dc := by
              show (if 12 < x.deps.length then _ else _) = _
              rw [if_pos h12]
            rw [e9]
            rfl
          obtain ⟨dad, e5⟩ := (hdr wr (own_drop hO)).addr (by unfold zs; rw [List.length_map]; omega)
          subst e5
          have hg1 : (12 : Int) < x.deps.length := by omega
          clear hx hdr HNOW
          go_upto_region 8 with (first | (refine own_loadrow_at (ad := ad.add (k * 4)) (vs := Iv.cells (x, .slice (some dad) x.deps.length dc)) rfl rfl rfl row_item sz_item rfl HC.out ?_) | (refine own_alloc (T := 66) rfl rfl zero_item rfl hO ?_; clear hO; intro gx u hO hSn; replace hS := hS.trans hSn; clear hSn) | (apply own_store_all (k := 0) rfl rfl rfl rfl sz_item hO rfl; (focus rfl); (focus rfl); (focus rfl); clear hO; intro u hO hSn; replace hS := hS.trans hSn; clear hSn; simp only [List.set_cons_zero, List.set_cons_succ] at hO))
          go_upto_region 10 with (first | (refine own_load1 (b := gx) (off := 3) (cs := (Iv.cells (x, .slice (some dad) x.deps.length dc)).toArray) (t := 66) (v := .slice (some dad) x.deps.length dc) rfl rfl rfl row_zs (own_get 0 hO rfl) rfl ?_) | (refine own_store1 (k := 0) (b := gx) (off := 3) (cs' := (Iv.cells (x, .slice (some dad) 12 dc)).toArray) rfl rfl rfl rfl sz_zs hO rfl rfl (by show 3 < 4; decide) rfl ?_; clear hO; intro u hO hSn; replace hS := hS.trans hSn; clear hSn; simp only [List.set_cons_zero, List.set_cons_succ] at hO))
          have hO := own_perm hO (List.Perm.swap _ _ _)
          go_wp2_with (first | (refine own_loadrow (b := gx) (off := 0) (cs := (Iv.cells (x, .slice (some dad) 12 dc)).toArray) (t := 66) (vs := [.int .i64 x.p.blk, .int .i64 x.p.off, .string x.p.dat, .slice (some dad) 12 dc]) rfl rfl rfl row_item sz_item (own_get 1 hO rfl) (by simp [Iv.cells]) (by rfl) ?_) | (refine own_append (m := 1) (n := k) (xs := (cellsI ((kl.take k).map cutI))) (news := [.int .i64 x.p.blk, .int .i64 x.p.off, .string x.p.dat, .slice (some dad) 12 dc]) rfl rfl rfl rfl Tryz.underlying49 info_item3 rfl (by decide) (own_perm (own_alloc_new hO (.cells #[.int .i64 x.p.blk, .int .i64 x.p.off, .string x.p.dat, .slice (some dad) 12 dc] 66)) (List.Perm.swap _ _ _)) ?_ (item_one x _ rfl) ?_ ?_ ?_; (exact rd_block (own_get 1 (own_perm (own_alloc_new hO (.cells #[.int .i64 x.p.blk, .int .i64 x.p.off, .string x.p.dat, .slice (some dad) 12 dc] 66)) (List.Perm.swap _ _ _)) rfl) rfl (by simp) (by simp) (by simp)); (have := HK12.out; unfold maxLen; omega); (have := HK12.out; omega); clear hO; intro v' w9 hO hS9 hv'))
          go_roundw
          case rel => exact ⟨k + 1, by omega, by go_num, by rw [HNX.out]; exact own_skip (own_skip hO), hS.trans ((Same.alloc _ _).trans hS9)⟩
          case measure => simp [intOf]; omega
        · have HNX : Hid (cellsI ((kl.take (k + 1)).map cutI) = cellsI ((kl.take k).map cutI) ++ [.int .i64 x.p.blk, .int .i64 x.p.off, .string x.p.dat, .slice DA x.deps.length dc]) := by
            show _ = _
            rw [List.take_add_one, hx, Option.toList_some, List.map_append, List.map_singleton, cellsI_snoc]
            have e9 : (cutI (x, .slice DA x.deps.length dc)).2 = .slice DA x.deps.length dc := by
              show (if 12 < x.deps.length then _ else _) = _
              rw [if_neg h12]
            rw [e9]
            rfl
          have hg1 : ¬ ((12 : Int) < x.deps.length) := by omega
          clear hx hdr HNOW
          go_upto_region 8 with (first | (refine own_loadrow_at (ad := ad.add (k * 4)) (vs := Iv.cells (x, .slice DA x.deps.length dc)) rfl rfl rfl row_item sz_item rfl HC.out ?_) | (refine own_alloc (T := 66) rfl rfl zero_item rfl hO ?_; clear hO; intro gx u hO hSn; replace hS := hS.trans hSn; clear hSn) | (apply own_store_all (k := 0) rfl rfl rfl rfl sz_item hO rfl; (focus rfl); (focus rfl); (focus rfl); clear hO; intro u hO hSn; replace hS := hS.trans hSn; clear hSn; simp only [List.set_cons_zero, List.set_cons_succ] at hO))
          go_upto_region 10 with (first | (refine own_load1 (b := gx) (off := 3) (cs := (Iv.cells (x, .slice DA x.deps.length dc)).toArray) (t := 66) (v := .slice DA x.deps.length dc) rfl rfl rfl row_zs (own_get 0 hO rfl) rfl ?_))
          have hO := own_perm hO (List.Perm.swap _ _ _)
          go_wp2_with (first | (refine own_loadrow (b := gx) (off := 0) (cs := (Iv.cells (x, .slice DA x.deps.length dc)).toArray) (t := 66) (vs := [.int .i64 x.p.blk, .int .i64 x.p.off, .string x.p.dat, .slice DA x.deps.length dc]) rfl rfl rfl row_item sz_item (own_get 1 hO rfl) (by simp [Iv.cells]) (by rfl) ?_) | (refine own_append (m := 1) (n := k) (xs := (cellsI ((kl.take k).map cutI))) (news := [.int .i64 x.p.blk, .int .i64 x.p.off, .string x.p.dat, .slice DA x.deps.length dc]) rfl rfl rfl rfl Tryz.underlying49 info_item3 rfl (by decide) (own_perm (own_alloc_new hO (.cells #[.int .i64 x.p.blk, .int .i64 x.p.off, .string x.p.dat, .slice DA x.deps.length dc] 66)) (List.Perm.swap _ _ _)) ?_ (item_one x _ rfl) ?_ ?_ ?_; (exact rd_block (own_get 1 (own_perm (own_alloc_new hO (.cells #[.int .i64 x.p.blk, .int .i64 x.p.off, .string x.p.dat, .slice DA x.deps.length dc] 66)) (List.Perm.swap _ _ _)) rfl) rfl (by simp) (by simp) (by simp)); (have := HK12.out; unfold maxLen; omega); (have := HK12.out; omega); clear hO; intro v' w9 hO hS9 hv'))
          go_roundw
          case rel => exact ⟨k + 1, by omega, by go_num, by rw [HNX.out]; exact own_skip (own_skip hO), hS.trans ((Same.alloc _ _).trans hS9)⟩
          case measure => simp [intOf]; omega
      · have hke : k = kl.length := by omega
        have hm1 : ¬ ((k : Int) < (is.length : Int)) := by have := HM.out; omega
        have HX : Hid (k = (fewI is).length ∧ cellsI ((kl.take k).map cutI) = cellsI (fewI is)) := by
          refine ⟨?_, ?_⟩
          · rw [hke]; unfold fewI; rw [List.length_map, HKE.out]
          · rw [hke, List.take_length, HKE.out]; rfl
        clear hke
        rw [HX.out.2] at hO
        go_wp2
        go_ret
        exact ⟨_, rfl, by rw [← HX.out.1]; exact hO, hS⟩
end
end Go.Proofs.YtlmkcnkidkoilaaGreat.H
