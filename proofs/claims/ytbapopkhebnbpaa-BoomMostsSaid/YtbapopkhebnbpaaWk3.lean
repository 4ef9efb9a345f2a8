/- The run of function 18, a part of its statements: reckoned by the kernel. Printed by closed2.py. -/
import Derived.Test.YtbapopkhebnbpaaWk2
set_option linter.all false
set_option linter.unusedVariables false
set_option linter.unusedSimpArgs false
set_option linter.unusedSectionVars false
namespace Go.AM
open Go Go.Proofs Sh
set_option maxRecDepth 1000000
def wd1527 : T AV := .n (.n (.n (L (J 0)) none .e) (J 0) wd7) (some (.slc (some (780, 0)) 2 2 3 .exact)) (.n wd8 none wd9)
def wd1528 : T AV := .n (.n (.n wd0 (J 8) wd2) (J 6) (.n wd4 (some (.slc (some (1911, 0)) 3 3 3 .tail)) wd6)) (some (.ptr (some (5, 0)))) (.n wd1527 (J 0) wd13)
set_option maxHeartbeats 0 in
theorem ws9 : (itO ft oraNone 19990).exec (a18.body.snd.snd.snd.snd.snd.snd.snd.snd.snd.fst) (.n (.n wd1512 (some (.ptr (some (5, 0)))) wd1515) (some (.bool false)) wd1520) ⟨(.n (.n (.n wd1470 (I [5,7]) wd101) (I [6]) wd1522) (I [5]) wd1526), 1917, 0⟩ = some (.normal, (.n wd1528 (some (.bool false)) (.n wd19 (some (.ptr (some (6, 0)))) wd25)), ⟨(.n (.n (.n wd63 (I [5,7]) wd101) (I [6]) wd176) (I [5]) wd325), 1922, 0⟩) := by kernel_rfl
end Go.AM
