/- The closed examples: run by evaluation. -/
import Derived.Test.YthcbimgdbhkikaaS1
set_option maxRecDepth 1000000
namespace Go.Ab
open Go Go.Proofs
theorem works_run : runY 17 [] = some (.b true, []) := by kernel_rfl
theorem works_ok : FSpec Try.prog 17 [] [] (.b true) [] := runY_ok works_run
end Go.Ab
