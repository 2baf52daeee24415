/- Contract of the reference's All; some, of the statements. -/
import Derived.Test.YtjilkbkafigloaaR4
import Derived.Test.YtjilkbkafigloaaP6
set_option linter.unusedVariables false
set_option linter.unusedSimpArgs false
set_option maxRecDepth 100000
namespace Go.Proofs.Ytjilkbkafigloaa.H
open Go.RowKit
theorem own_skip {w : World} {A B : HP} {L : List HP} (h : Own w (A :: B :: L)) : Own w (A :: L) := own_drop (own_perm h (List.Perm.swap _ _ _))
theorem owns_rdB {w : World} {L : List HP} {e m : Nat} {v : Value} {bs : List UInt8} (hm : m = bs.length) (h : Own w (owns e 1 v m (bcs bs) :: L)) : RdB w v bs := by
  subst hm
  exact owns_rd h
/-- What holds at each round of the reference's All. -/
def RAllInv (L : List HP) (w0 : World) (bs : List UInt8) (ps : List Pat) (v : Value) (k : Nat) (wr : World) : Prop :=
  (∀ p ∈ ps.take k, rightB p = true) ∧ Own wr (owns 5 1 v 32 (bcs (appAll bs (ps.take k))) :: L) ∧ Same w0 wr
/-- What the reference's All hands back. -/
def RAllPost (L : List HP) (w0 : World) (bs : List UInt8) (ps : List Pat) (e : Ending) (w' : World) : Prop :=
  if (∀ p ∈ ps, rightB p = true) then RetX w0 (fun v => .tuple #[v, .int .i64 0]) (fun v => owns 5 1 v 32 (bcs (appAll bs ps)) :: L) e w'
  else Ret w0 (.tuple #[.slice none 0 0, .int .i64 3]) L e w'
end Go.Proofs.Ytjilkbkafigloaa.H
