/- A slice literal: a block of one's own. -/
import Derived.Test.YtdcbfdepkbplbaaH4
import Derived.Great.BuildSlice
set_option linter.unusedVariables false
set_option linter.unusedSimpArgs false
namespace Go.Proofs.Ytdcbfdepkbplbaa.H
open Go.RowKit
section
variable {P : Program} {ops : Array Oper} {rest : List Oper} {o : Oper} {a : Act} {Q : Exit → Act → World → Prop} {w : World} {L : List HP}
/-- 'T{x, ..}' of n elements of 'size' cells. -/
theorem own_lit {T e : TypeId} {n size : Nat} {z : Value} {parts : Array (Nat × Operand)} {cs : Array Value} (hw : Region.wanted o (yielded ops a.tmps) = true) (ho : o.op = .buildSlice T n parts)
    (ht : P.underlying T = some (.slice e)) (hinfo : (P.info? e).map (fun i => (i.zero, i.size)) = some (some z, size)) (hs : n * size ≤ 2 ^ 24) (hp : 0 < n * size)
    (hf : Instr.fill (fun i => some (i * size, size)) ((Array.range (n * size)).map (z.cells[· % z.cells.size]!)) (parts.map fun (i, x) => (i, a.eval x)).toList = some cs) (hO : Own w L)
    (h : ∀ b w', Own w' (pts b (.cells cs e) :: L) → Same w w' → wpList P ops Q rest (a.put o.dst (.slice (some ⟨b, 0, none⟩) n n)) w') : wpList P ops Q (o :: rest) a w := by
  obtain ⟨i, hi, hzz⟩ := Option.map_eq_some_iff.1 hinfo
  simp only [Prod.mk.injEq] at hzz
  obtain ⟨hz, hsz⟩ := hzz
  subst hsz
  have hrun : (execOp a.eval o).run P w = .ok (.value (.slice (some ⟨w.heap.size, 0, none⟩) n n)) (w.alloc (.cells cs e)) := by
    simp only [execOp, ho]
    have := run_buildSlice (P := P) w T e n (parts.map fun (i, x) => (i, a.eval x)) cs i z ht hi hz (by omega) (by omega) hf
    simp [this]
  exact ev hw hrun (h _ _ (own_alloc_new hO _) (Same.alloc _ _))
end
end Go.Proofs.Ytdcbfdepkbplbaa.H
