/- Something that reads as a slice; calls on one of what is owned. -/
import Derived.Test.YtjilkbkafigloaaH12
import Derived.Test.YtjilkbkafigloaaR5
import Derived.Test.YtjilkbkafigloaaH6
set_option linter.unusedVariables false
set_option linter.unusedSimpArgs false
namespace Go.Proofs.Ytjilkbkafigloaa.H
open Go.RowKit
/-- Something that reads as the slice v. -/
def rdA (size : Nat) (v : Value) (n : Nat) (xs : List Value) : HP := fun p q => ∀ w : World, p.le w → q.le w → Rd w size v n xs
theorem rdA_rd {w : World} {L : List HP} {size n : Nat} {v : Value} {xs : List Value} (h : Own w (rdA size v n xs :: L)) : Rd w size v n xs := by
  obtain ⟨p1, q1, p2, q2, hA, hB, h1, h2, _⟩ := own_cons.1 h
  exact hA w h1 h2
theorem own_rdA {w : World} {L : List HP} {A : HP} {size n : Nat} {v : Value} {xs : List Value} (hf : ∀ w', Own w' [A] → Rd w' size v n xs) (h : Own w (A :: L)) : Own w (rdA size v n xs :: L) := by
  obtain ⟨p1, q1, p2, q2, hA, hB, h1, h2, h3, h4, d1, d2, d3, d4, d5⟩ := own_cons.1 h
  refine own_cons.2 ⟨p1, q1, p2, q2, fun w' e1 e2 => hf w' ?_, hB, h1, h2, h3, h4, d1, d2, d3, d4, d5⟩
  exact own_cons.2 ⟨p1, q1, nul, nul, hA, ⟨rfl, rfl⟩, e1, e2, nul_le _, nul_le _, dis_nul _, dis_nul _, nul_dis _, d4, nul_dis _⟩
theorem rdA_owns {w : World} {L : List HP} {e : TypeId} {size n : Nat} {v : Value} {xs : List Value} (h : Own w (owns e size v n xs :: L)) : Own w (rdA size v n xs :: L) := own_rdA (fun w' h => owns_rd h) h
theorem rdA_nil {w : World} {L : List HP} {size : Nat} (h : Own w L) : Own w (rdA size (.slice none 0 0) 0 [] :: L) := own_rdA (A := emp) (fun w' _ => rd_nil _ _) (own_emp.2 h)
theorem rdA_pts {w : World} {L : List HP} {g : Nat} {T : TypeId} {bs : List UInt8} (hb : bs.length = 32) (h : Own w (pts g (.cells (bcs bs).toArray T) :: L)) : Own w (rdA 1 (.slice (some ⟨g, 0, none⟩) 32 32) 32 (bcs bs) :: L) :=
  own_rdA (fun w' h => rd_block (own_pts h) (by rw [Nat.mul_one, ← hb, ← bcs_length bs, List.take_length]) (by simp [bcs_length, hb]) (Nat.le_refl _) (by decide)) h
section
variable {P : Program} {w : World} {L : List HP} {f : FuncId} {args : Array Value} {A B : HP}
/-- A call that turns what stands at one place into something else. -/
theorem call_at {r : Value} (k : Nat) (h : ∀ L', Own w (A :: L') → Calls P f args w (Ret w r (B :: L'))) (hk : L[k]? = some A) (hO : Own w L) : Calls P f args w (Ret w r (L.set k B)) := by
  refine (h _ (own_at hO hk)).mono ?_
  rintro e w' ⟨rfl, hO', hS⟩
  exact ⟨rfl, own_back hO' (List.getElem?_eq_some_iff.1 hk).1, hS⟩
theorem call_atX {α : Type} {V : α → Value} {C : α → HP} (k : Nat) (h : ∀ L', Own w (A :: L') → Calls P f args w (RetX w V (fun v => C v :: B :: L'))) (hk : L[k]? = some A) (hO : Own w L) : Calls P f args w (RetX w V (fun v => C v :: L.set k B)) := by
  refine (h _ (own_at hO hk)).mono ?_
  rintro e w' ⟨v, rfl, hO', hS⟩
  refine ⟨v, rfl, own_perm hO' (List.Perm.cons _ (perm_set (List.getElem?_eq_some_iff.1 hk).1)), hS⟩
end
section
variable {P : Program} {ops : Array Oper} {rest : List Oper} {o : Oper} {a aF : Act} {Q : Exit → Act → World → Prop} {C : World → Prop} {w : World} {L : List HP}
theorem own_load1_at {T : TypeId} {x : Operand} {ad : Addr} {v : Value} (hw : Region.wanted o (yielded ops a.tmps) = true) (ho : o.op = .load T x) (hx : a.eval x = .pointer (some ad))
    (hT : isRowB P T = some false) (hc : w.cell? ad = some v) (h : wpList P ops Q rest (a.put o.dst v) w) : wpList P ops Q (o :: rest) a w := by
  refine ev hw ?_ h
  simp only [execOp, ho, hx, Sem.run_bind, run_load1_at hT hc]
  rfl
theorem y_string {src dst e : TypeId} {x : Operand} {v : Value} {n : Nat} {bs : List UInt8} (hw : Region.wanted o (yielded ops aF.tmps) = true) (ho : o.op = .convert src dst x) (hx : aF.eval x = v)
    (hs : P.underlying src = some (.slice e)) (he : P.underlying e = some (.int .u8)) (hd : P.underlying dst = some .string) (hn : n = bs.length) (hr : ∀ w, C w → Rd w 1 v n (bcs bs)) : YieldsIn P ops C o (.string (bstr bs)) aF := by
  refine y_run hw (fun w hC => ?_)
  simp only [execOp, ho, hx, Sem.run_bind, run_string hs he hd hn (hr w hC)]
  rfl
end
end Go.Proofs.Ytjilkbkafigloaa.H
