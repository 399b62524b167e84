/- The laws SwapBooks, SwapKnown. -/
import Derived.Test.YtgaijhpekajflaaSW
set_option linter.unusedVariables false
set_option linter.unusedSimpArgs false
set_option maxHeartbeats 4000000
set_option maxRecDepth 100000
namespace Go.Ab
open Go Go.Proofs

theorem balP_pure {n D} : (balP n D).pure = true := by
  unfold balP
  split
  · simp
  · rfl
end Go.Ab
