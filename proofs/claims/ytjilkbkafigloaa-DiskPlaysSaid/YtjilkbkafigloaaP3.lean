/- Contract of patch.Overlap. -/
import Derived.Test.YtjilkbkafigloaaP2
set_option linter.unusedVariables false
set_option linter.unusedSimpArgs false
set_option maxRecDepth 100000
namespace Go.Proofs.Ytjilkbkafigloaa.H
open Go.RowKit
def overB (p q : Pat) : Bool := rightB p && rightB q && decide (p.blk = q.blk) && decide (p.off < q.off + q.dat.size) && decide (q.off < p.off + p.dat.size)
end Go.Proofs.Ytjilkbkafigloaa.H
