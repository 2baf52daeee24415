/- Contracts of patch.Undo and patch.Idle. -/
import Derived.Test.YtdcbfdepkbplbaaP3
set_option linter.unusedVariables false
set_option linter.unusedSimpArgs false
set_option maxRecDepth 100000
namespace Go.Proofs.Ytdcbfdepkbplbaa.H
open Go.RowKit
theorem zero_pat : (Try.prog.info? 33).map (·.zero) = some (some (.agg #[.int .i64 0, .int .i64 0, .string ⟨#[]⟩])) := by kernel_rfl
end Go.Proofs.Ytdcbfdepkbplbaa.H
