/- PatchApplies: the walk. -/
import Derived.Test.YtdcbfdepkbplbaaL1
import Derived.Test.YtdcbfdepkbplbaaR4
set_option linter.unusedVariables false
set_option linter.unusedSimpArgs false
set_option maxRecDepth 100000
namespace Go.Proofs.Ytdcbfdepkbplbaa.H
open Go.RowKit
theorem own_app_mid {w : World} {A : HP} {L : List HP} : True := trivial
end Go.Proofs.Ytdcbfdepkbplbaa.H
