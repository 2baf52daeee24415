/- Contract of patch.All. -/
import Derived.Test.YtjilkbkafigloaaP5
set_option linter.unusedVariables false
set_option linter.unusedSimpArgs false
set_option maxRecDepth 100000
namespace Go.Proofs.Ytjilkbkafigloaa.H
open Go.RowKit
abbrev RdP (w : World) (v : Value) (ps : List Pat) : Prop := Rd w 3 v ps.length (cellsP ps)
/-- What holds at each round of All's loop. -/
def AllInv (L : List HP) (w0 : World) (g : Nat) (bs : List UInt8) (ps : List Pat) (k : Nat) (wr : World) : Prop :=
  (∀ p ∈ ps.take k, rightB p = true) ∧ Own wr (pts g (.cells (bcs (appAll bs (ps.take k))).toArray 5) :: L) ∧ Same w0 wr
/-- What All hands back. -/
def AllPost (L : List HP) (w0 : World) (bs : List UInt8) (ps : List Pat) (e : Ending) (w' : World) : Prop :=
  if (∀ p ∈ ps, rightB p = true) then RetX w0 (fun g => .tuple #[.slice (some ⟨g, 0, none⟩) 32 32, .int .i64 0]) (fun g => pts g (.cells (bcs (appAll bs ps)).toArray 5) :: L) e w'
  else Ret w0 (.tuple #[.slice none 0 0, .int .i64 3]) L e w'
end Go.Proofs.Ytjilkbkafigloaa.H
