/- Loads from what is only read, in a region. -/
import Derived.Test.YtjilkbkafigloaaH3
set_option linter.unusedVariables false
set_option linter.unusedSimpArgs false
namespace Go.Proofs.Ytjilkbkafigloaa.H
open Go.RowKit
section
variable {P : Program} {ops : Array Oper} {C : World → Prop} {w : World}
theorem run_load1_at {T : TypeId} {ad : Addr} {v : Value} (hT : isRowB P T = some false) (hc : w.cell? ad = some v) :
    (Instr.loadAt T (.pointer (some ad))).run P w = .ok v w := by
  obtain ⟨d, hd, hr⟩ := underlying_row hT
  have hagg : (isAgg T).run P w = .ok false w := by
    unfold isAgg
    rw [Sem.run_bind, run_underlying hd w]
    cases d <;> simp_all
  simp [Instr.loadAt, Instr.sureAddr, loadVar, Sem.run_bind, hagg, load]
  simp only [Sem.run, hc]
theorem wv_load1_at {K : Act → Prop} {o : Oper} {ol : List Oper} {a : Act} {T : TypeId} {x : Operand} {ad : Addr} {v : Value} (hw : Region.wanted o (yielded ops a.tmps) = true) (ho : o.op = .load T x) (hx : a.eval x = .pointer (some ad))
    (hT : isRowB P T = some false) (hc : ∀ w, C w → w.cell? ad = some v) (h : wpVals P ops C K ol (a.put o.dst v)) : wpVals P ops C K (o :: ol) a := by
  refine wv_run hw (fun w hC => ?_) h
  simp only [execOp, ho, hx, Sem.run_bind, run_load1_at hT (hc w hC)]
  rfl
theorem wv_loadrow_at {K : Act → Prop} {o : Oper} {ol : List Oper} {a : Act} {T : TypeId} {x : Operand} {ad : Addr} {n : Nat} {vs : List Value} (hw : Region.wanted o (yielded ops a.tmps) = true) (ho : o.op = .load T x) (hx : a.eval x = .pointer (some ad))
    (hT : isRowB P T = some true) (hsz : (P.info? T).map (·.size) = some n) (hn : vs.length = n) (hc : ∀ w, C w → ∀ (j : Nat) (u : Value), vs[j]? = some u → w.cell? (ad.add j) = some u) (h : wpVals P ops C K ol (a.put o.dst (.agg vs.toArray))) : wpVals P ops C K (o :: ol) a := by
  refine wv_run hw (fun w hC => ?_) h
  simp only [execOp, ho, hx, Sem.run_bind, run_loadrow_at hT hsz hn (hc w hC)]
  rfl
end
end Go.Proofs.Ytjilkbkafigloaa.H
