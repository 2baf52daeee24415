/- Contracts of package patch: Apply. -/
import Derived.Test.YtjilkbkafigloaaH3
import Derived.Test.YtjilkbkafigloaaM1
import Derived.Test.YtjilkbkafigloaaP1
import Derived.WalkLawsBesides
import Derived.WalkSpells
set_option linter.unusedVariables false
set_option linter.unusedSimpArgs false
set_option maxRecDepth 100000
namespace Go.Proofs.Ytjilkbkafigloaa.H
open Go.RowKit
end Go.Proofs.Ytjilkbkafigloaa.H
