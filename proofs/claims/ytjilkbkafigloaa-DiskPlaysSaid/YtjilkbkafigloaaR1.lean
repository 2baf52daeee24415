/- Contracts of the reference of patch: Right, writes. -/
import Derived.Test.YtjilkbkafigloaaP1
set_option linter.unusedVariables false
set_option linter.unusedSimpArgs false
set_option maxRecDepth 100000
namespace Go.Proofs.Ytjilkbkafigloaa.H
open Go.RowKit
def wrB (p : Pat) (i : Nat) : Bool := decide (p.off ≤ i) && decide ((i : Int) < p.off + p.dat.size)
end Go.Proofs.Ytjilkbkafigloaa.H
