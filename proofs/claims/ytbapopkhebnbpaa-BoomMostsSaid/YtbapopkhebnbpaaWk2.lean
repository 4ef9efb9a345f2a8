/- The run of function 18, a part of its statements: reckoned by the kernel. Printed by closed2.py. -/
import Derived.Test.YtbapopkhebnbpaaWk1
set_option linter.all false
set_option linter.unusedVariables false
set_option linter.unusedSimpArgs false
set_option linter.unusedSectionVars false
namespace Go.AM
open Go Go.Proofs Sh
set_option maxRecDepth 1000000
def wd1502 : T AV := .n (.n (L (some (.tup [(i 1), (i 0)]))) (some (.slc (some (3, 0)) 2 2 3 .exact)) .e) none (L (J 19))
def wd1503 : T AV := .n (.n wd1328 (J 8) wd1502) (J 6) (.n wd1462 (some (.slc (some (1911, 0)) 3 3 3 .tail)) (.n wd5 none (L (J 8))))
def wd1504 : T AV := .n (.n (.n (L (J 0)) none .e) none (L (some (.tup [(i 0), (i 19)])))) (some (.slc (some (780, 0)) 2 2 3 .exact)) (.n wd8 none wd3)
def wd1505 : T AV := .n wd1503 (some (.ptr (some (5, 0)))) (.n wd1504 (J 0) (.n (.n wd11 none (L (some (.tup [(i 0), (i 19)])))) (J 1) wd1331))
def wd1506 : T AV := .n (.n wd3 (some (.slc (some (3, 0)) 2 2 3 .exact)) .e) none (L (some (.tup [(i 8), (i 0)])))
def wd1507 : T AV := .n (.n (.n (L (some (.slc (some (780, 0)) 2 2 3 .exact))) none .e) none (L (J 0))) (J 0) wd1506
def wd1508 : T AV := .n (.n wd20 none wd1) (J 0) (.n (.n (L (J 1)) (some (.tup [(i 6), (i 0)])) .e) none (L (some (.tup [(i 8), (i 0)]))))
def wd1509 : T AV := .n wd1508 (J 19) (.n (.n wd5 none (L (J 0))) (J 0) (.n (L (some (.tup [(i 6), (i 0)]))) none wd3))
def wd1510 : T AV := .n wd1505 (some (.bool false)) (.n (.n wd1507 (J 0) wd1465) (some (.ptr (some (6, 0)))) wd1509)
set_option maxHeartbeats 0 in
theorem ws7 : (itO ft oraNone 19992).exec (a18.body.snd.snd.snd.snd.snd.snd.snd.fst) wd1468 ⟨(.n (.n (.n wd1470 (I [5,7]) wd1474) (I [6]) wd1483) (I [5]) wd1501), 1912, 0⟩ = some (.normal, wd1510, ⟨(.n (.n (.n wd1470 (I [5,7]) wd1474) (I [6]) wd1483) (I [5]) wd1501), 1912, 0⟩) := by kernel_rfl
def wd1511 : T AV := .n (.n (L (some (.tup [(.slc (some (780, 0)) 2 2 3 .exact), (i 0)]))) none .e) (J 2) (.n (L (some (.agg [(.slc (some (1912, 0)) 2 2 3 .exact), (i (-1))]))) (J 6) .e)
def wd1512 : T AV := .n (.n wd1511 (J 8) wd1502) (J 6) (.n wd4 (some (.slc (some (1911, 0)) 3 3 3 .tail)) (.n wd5 none (L (J 8))))
def wd1513 : T AV := .n (.n (.n (L (J 0)) none .e) none wd7) (some (.slc (some (780, 0)) 2 2 3 .exact)) (.n wd8 none wd3)
def wd1514 : T AV := .n (.n wd1 (some (.slc (some (7, 0)) 2 2 3 .exact)) .e) none (L (some (.tup [(.slc (some (780, 0)) 2 2 3 .exact), (i 0)])))
def wd1515 : T AV := .n wd1513 (J 0) (.n (.n wd11 none (.n (L (J 0)) (some (.tup [(i 0), (i 19)])) .e)) (J 1) wd1514)
def wd1516 : T AV := .n (.n (L (some (.tup [(i 2), (i 0)]))) (some (.slc (some (7, 0)) 2 2 3 .exact)) .e) none (L (J 0))
def wd1517 : T AV := .n (.n wd17 none (.n (L (J 2)) (some (.slc (some (8, 0)) 2 2 3 .exact)) .e)) (J 0) wd1516
def wd1518 : T AV := .n (.n wd20 none wd21) (J 0) (.n (.n (L (J 1)) (some (.tup [(i 6), (i 0)])) .e) none (L (some (.tup [(i 8), (i 0)]))))
def wd1519 : T AV := .n (.n (L (some (.slc (some (1912, 0)) 2 2 3 .exact))) (some (.tup [(i 6), (i 0)])) .e) none wd3
def wd1520 : T AV := .n (.n (.n wd15 (J 0) wd1506) (J 0) wd1517) (some (.ptr (some (6, 0)))) (.n wd1518 (J 19) (.n (.n wd5 none (L (J 0))) (J 0) wd1519))
def wd1521 : T AObj := .n (.n wd1476 (I [-1,-1,5,3,-1,-1,-1,-1,5,2,5,-1,5,0,7,-1,-1,-1,5,1,-1,-1,-1,-1]) wd120) (C [(i 4), (i 3), (.slc (some (3, 0)) 2 2 3 .exact), (.slc none 0 0 0 .exact)]) (.n (.n wd125 (I [4]) (.n wd127 (I [2,1]) wd129)) (I [5]) wd138)
def wd1522 : T AObj := .n wd1521 (C [(i 4), (i 3), (.slc (some (0, 0)) 1 1 3 .exact), (.slc (some (1, 0)) 1 1 3 .exact)]) wd1482
def wd1523 : T AObj := .n (.n wd1485 (C [(.bool true)]) wd195) (I [5,6]) (.n wd205 (C [(.ptr (some (13, 0)))]) wd214)
def wd1524 : T AObj := .n wd1523 (C [(i 4), (i 3), (.slc (some (3, 0)) 2 2 3 .exact), (.slc none 0 0 0 .exact)]) wd251
def wd1525 : T AObj := .n wd290 (C [(i 4), (i 3), (.slc (some (3, 0)) 2 2 3 .exact), (.slc none 0 0 0 .exact)]) wd1499
def wd1526 : T AObj := .n wd1524 (C [(i 4), (i 3), (.slc (some (0, 0)) 1 1 3 .exact), (.slc (some (1, 0)) 1 1 3 .exact)]) wd1525
set_option maxHeartbeats 0 in
theorem ws8 : (itO ft oraNone 19991).exec (a18.body.snd.snd.snd.snd.snd.snd.snd.snd.fst) wd1510 ⟨(.n (.n (.n wd1470 (I [5,7]) wd1474) (I [6]) wd1483) (I [5]) wd1501), 1912, 0⟩ = some (.normal, (.n (.n wd1512 (some (.ptr (some (5, 0)))) wd1515) (some (.bool false)) wd1520), ⟨(.n (.n (.n wd1470 (I [5,7]) wd101) (I [6]) wd1522) (I [5]) wd1526), 1917, 0⟩) := by kernel_rfl
end Go.AM
