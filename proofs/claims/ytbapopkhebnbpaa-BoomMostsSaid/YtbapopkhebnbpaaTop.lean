/- The table of the program's functions is sound. -/
import Derived.Test.YtbapopkhebnbpaaMC
import Derived.Test.YtbapopkhebnbpaaAst
import Derived.Test.YtbapopkhebnbpaaProg
import Derived.KernelRfl
set_option linter.all false
set_option linter.unusedVariables false
set_option linter.unusedSimpArgs false
set_option linter.unusedSectionVars false
namespace Go.AM
open Go Go.Proofs
set_option maxRecDepth 100000
theorem mixed : Try.prog.follows .mixedOrders = true := by kernel_rfl
theorem table : TableOK Try.prog ft := table_of (by kernel_rfl)
end Go.AM
