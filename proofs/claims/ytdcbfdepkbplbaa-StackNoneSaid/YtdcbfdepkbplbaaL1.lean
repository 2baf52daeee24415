/- live, of the statements on patches. -/
import Derived.Test.YtdcbfdepkbplbaaP2
import Derived.Test.YtdcbfdepkbplbaaP8
set_option linter.unusedVariables false
set_option linter.unusedSimpArgs false
set_option maxRecDepth 100000
namespace Go.Proofs.Ytdcbfdepkbplbaa.H
open Go.RowKit
theorem live_app : app (List.replicate 32 0) ⟨0, 1, ⟨#[97, 98]⟩⟩ = [0, 97, 98] ++ List.replicate 29 0 := by decide
theorem live_join : (joinM ⟨0, 0, ⟨#[97, 98]⟩⟩ ⟨0, 1, ⟨#[120, 121]⟩⟩).cells.toArray = #[.int .i64 0, .int .i64 0, .string ⟨#[97, 120, 121]⟩] := by rfl
end Go.Proofs.Ytdcbfdepkbplbaa.H
