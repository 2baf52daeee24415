/- Write, Spoil of the program's disk. -/
import Derived.Test.YtjilkbkafigloaaK4
set_option linter.unusedVariables false
set_option linter.unusedSimpArgs false
set_option maxRecDepth 100000
namespace Go.Proofs.Ytjilkbkafigloaa.H
open Go.RowKit
theorem fill_all : ∀ (l pre cs : List Value), cs.length = l.length → (l.zipIdx pre.length).foldl (fun (a : Array Value) (x : Value × Nat) => a.setIfInBounds (0 + x.2) x.1) (pre ++ cs).toArray = (pre ++ l).toArray
  | [], pre, cs, h => by
    have : cs = [] := List.eq_nil_of_length_eq_zero h
    subst this
    rfl
  | v :: l, pre, [], h => by simp at h
  | v :: l, pre, c :: cs, h => by
    have ih := fill_all l (pre ++ [v]) cs (by simpa using h)
    rw [List.length_append, List.length_singleton] at ih
    rw [List.zipIdx_cons, List.foldl_cons]
    simp only [Nat.zero_add] at ih ⊢
    have e : (pre ++ c :: cs).toArray.setIfInBounds pre.length v = ((pre ++ [v]) ++ cs).toArray := by simp
    rw [e, ih]
    simp
theorem fill_one {n : Nat} {l cs : List Value} (hl : l.length = n) (hc : cs.length = n) : Instr.fill (fun i => some (i * n, n)) cs.toArray [(0, .agg l.toArray)] = some l.toArray := by
  have h := fill_all l [] cs (by omega)
  simp only [List.length_nil, List.nil_append] at h
  subst hl
  simp only [Instr.fill, Value.cells, Nat.zero_mul, Nat.zero_add, List.size_toArray, ne_eq, not_true, decide_false, Bool.false_or, hc, gt_iff_lt, Nat.lt_irrefl, decide_true, Bool.false_eq_true, if_false]
  simp only [Nat.zero_add] at h
  have e : (l.toArray.zipIdx).foldl (fun (a : Array Value) (x : Value × Nat) => a.setIfInBounds x.2 x.1) cs.toArray = l.toArray := by
    rw [← Array.foldl_toList, Array.toList_zipIdx]
    exact h
  exact congrArg some e
theorem run_bs1 {s : Sec} (h : s.length = 32) (w : World) : (Instr.buildSlice 23 1 #[(0, secV s)]).run Try.prog w = .ok (.slice (some ⟨w.heap.size, 0, none⟩) 1 1) (w.alloc (.cells (bcs s).toArray 26)) := by
  obtain ⟨i, hi, hz⟩ := Option.map_eq_some_iff.1 zero_sec
  have hsz : i.size = 32 := by have := sz_sec; rw [hi] at this; simpa using this
  have hc : (bcs s).length = 32 := by rw [bcs_length, h]
  have hk : ∀ cs : List Value, cs.length = 32 → Instr.fill (fun i => some (i * 32, 32)) cs.toArray [(0, secV s)] = some (bcs s).toArray := fun cs hcs => fill_one hc hcs
  simp [Instr.buildSlice, run_underlying Try.underlying23, sizeOf, typeInfo, zeroValue, hi, hz, hsz, Value.cells, hk, newRow]
end Go.Proofs.Ytjilkbkafigloaa.H
