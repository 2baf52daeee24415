/- Contracts of the reference's Apply and Undo at what may not be, of its Undo and Idle. -/
import Derived.Test.YtjilkbkafigloaaR2
import Derived.Test.YtjilkbkafigloaaP5
set_option linter.unusedVariables false
set_option linter.unusedSimpArgs false
set_option maxRecDepth 100000
namespace Go.Proofs.Ytjilkbkafigloaa.H
open Go.RowKit
end Go.Proofs.Ytjilkbkafigloaa.H
