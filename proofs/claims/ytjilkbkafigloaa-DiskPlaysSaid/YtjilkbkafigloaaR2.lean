/- Contract of the reference's Apply. -/
import Derived.Test.YtjilkbkafigloaaR1
import Derived.Test.YtjilkbkafigloaaH4
set_option linter.unusedVariables false
set_option linter.unusedSimpArgs false
set_option maxRecDepth 100000
namespace Go.Proofs.Ytjilkbkafigloaa.H
open Go.RowKit
end Go.Proofs.Ytjilkbkafigloaa.H
