/- Contracts of package patch: Apply. -/
import Derived.Test.YtdcbfdepkbplbaaH3
import Derived.Test.YtdcbfdepkbplbaaM1
import Derived.Test.YtdcbfdepkbplbaaP1
import Derived.WalkLawsBesides
import Derived.WalkSpells
set_option linter.unusedVariables false
set_option linter.unusedSimpArgs false
set_option maxRecDepth 100000
namespace Go.Proofs.Ytdcbfdepkbplbaa.H
open Go.RowKit
end Go.Proofs.Ytdcbfdepkbplbaa.H
