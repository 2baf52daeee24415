/- Contracts of patch.Apply and patch.Undo at what may not be; of patch.Idle. -/
import Derived.Test.YtjilkbkafigloaaP4
set_option linter.unusedVariables false
set_option linter.unusedSimpArgs false
set_option maxRecDepth 100000
namespace Go.Proofs.Ytjilkbkafigloaa.H
open Go.RowKit
def idleB (bs : List UInt8) (p : Pat) : Bool := decide (bs.length = 32) && rightB p && decide ((bs.drop p.off.toNat).take p.dat.size = p.dat.data.toList)
end Go.Proofs.Ytjilkbkafigloaa.H
