/- The table of the program's functions is sound. -/
import Derived.Test.YtbapopkhebnbpaaAm38
import Derived.Test.YtbapopkhebnbpaaAst
import Derived.Test.YtbapopkhebnbpaaProg
import Derived.KernelRfl
namespace Go.AM
open Go Go.Proofs
set_option maxRecDepth 100000
theorem mixed : Try.prog.follows .mixedOrders = true := by kernel_rfl
theorem table : TableOK Try.prog ft := table_of (by kernel_rfl)
end Go.AM
