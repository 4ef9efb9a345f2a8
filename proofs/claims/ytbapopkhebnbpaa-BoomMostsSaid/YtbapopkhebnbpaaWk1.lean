/- The run of function 18, a part of its statements: reckoned by the kernel. Printed by closed2.py. -/
import Derived.Test.YtbapopkhebnbpaaWk0
set_option linter.all false
set_option linter.unusedVariables false
set_option linter.unusedSimpArgs false
set_option linter.unusedSectionVars false
namespace Go.AM
open Go Go.Proofs Sh
set_option maxRecDepth 1000000
def wd1462 : T AV := .n (.n wd3 (some (.slc (some (0, 0)) 1 1 3 .exact)) .e) none (L (some (.slc (some (8, 0)) 2 2 3 .exact)))
def wd1463 : T AV := .n (.n wd1328 (J 8) (.n (L (some (.slc (some (3, 0)) 2 2 3 .exact))) none (L (J 19)))) (J 6) (.n wd1462 (some (.slc (some (1911, 0)) 3 3 3 .tail)) (.n wd1 none (L (J 8))))
def wd1464 : T AV := .n wd1463 (some (.ptr (some (5, 0)))) (.n wd1330 (J 0) (.n (.n wd11 none (L (some (.tup [(i 0), (i 19)])))) none wd1331))
def wd1465 : T AV := .n (.n wd17 none (L (some (.slc (some (8, 0)) 2 2 3 .exact)))) (J 0) (.n (L (some (.slc (some (7, 0)) 2 2 3 .exact))) none (L (J 0)))
def wd1466 : T AV := .n (.n wd20 none wd1) (J 0) (.n (L (some (.tup [(i 6), (i 0)]))) none (L (some (.tup [(i 8), (i 0)]))))
def wd1467 : T AV := .n wd1466 (J 19) (.n (.n wd5 none (L (J 0))) none (.n (L (some (.tup [(i 6), (i 0)]))) none wd3))
def wd1468 : T AV := .n wd1464 (some (.bool false)) (.n (.n wd1333 (J 0) wd1465) (some (.ptr (some (6, 0)))) wd1467)
def wd1469 : T AObj := .n wd26 (I [1]) (.n (.n (L (I [2,1])) (I [2]) (L (I [1,1]))) (I [3]) (.n (L (I [3,1])) (I [2]) .e))
def wd1470 : T AObj := .n (.n (.n (.n wd1469 (I []) (.n wd29 (I [2]) wd30)) (I [6]) wd34) (I [7,0]) wd43) (I [4,5]) (.n wd53 (I [5]) (.n (.n wd55 (I [1,0]) (.n wd56 (I [1,1]) wd57)) none wd62))
def wd1471 : T AObj := .n (.n (L (I [3])) (I [3,1]) (L (I [3]))) (I [2,1]) (.n (L (C [(.ptr (some (785, 0)))])) (I [3]) .e)
def wd1472 : T AObj := .n (.n wd92 none wd93) (I [9,1]) (.n wd95 (I [2]) (.n wd1471 (C [(.fn 100 [(.ptr (some (13, 0)))] [])]) wd98))
def wd1473 : T AObj := .n (.n (.n (.n wd81 (I [2,2]) wd82) (I [6]) wd84) (I [1,0]) wd90) (I [2,1,1,2,0,1,1,0]) wd1472
def wd1474 : T AObj := .n wd80 (C [(i 4), (i 3), (.slc (some (3, 0)) 2 2 3 .exact), (.slc none 0 0 0 .exact)]) wd1473
def wd1475 : T AObj := .n wd102 (I [2,0]) (.n (.n (L (I [1])) (I [1,1]) (L (I [1]))) (I [3]) (.n (L (I [1])) none .e))
def wd1476 : T AObj := .n (.n wd1475 (C [(.slc (some (133, 1)) 6 6 3 .tail)]) (.n wd104 none wd105)) (I [1,2]) (.n wd108 (I [4,1]) wd110)
def wd1477 : T AObj := .n (.n (.n .e none (L (I [1,3]))) (I [11]) (.n (L (I [0])) (I [3,1,2,2,1,1,2,0]) .e)) none wd137
def wd1478 : T AObj := .n (.n (.n wd130 (C [(.slc (some (152, 0)) 12 12 104 .exact)]) wd131) (I [0]) wd134) (I [7,0]) (.n wd135 (I [2,2]) wd1477)
def wd1479 : T AObj := .n (.n wd1476 (I [-1,-1,5,3,-1,-1,-1,-1,5,2,5,-1,5,0,7,-1,-1,-1,5,1,-1,-1,-1,-1]) wd120) (C [(i 4), (i 3), (.slc (some (3, 0)) 2 2 3 .exact), (.slc none 0 0 0 .exact)]) (.n (.n wd125 (I [4]) (.n wd127 (I [2,1]) wd129)) (I [5]) wd1478)
def wd1480 : T AObj := .n (.n (.n (L (I [11])) (I [1]) (L (I [0]))) (I [1]) (.n (L none) (I [2,2]) .e)) (C [(.ptr (some (13, 0)))]) (.n (.n (L (I [])) (I [-1,-1]) (L none)) (I [5]) (.n (L none) none .e))
def wd1481 : T AObj := .n wd170 (I [-1,-1,5,3,6,3,7,3,5,2,5,-1,5,0,7,-1,-1,-1,5,1,6,1,7,1]) (.n wd172 none wd1480)
def wd1482 : T AObj := .n wd157 (C [(i 4), (i 3), (.slc (some (3, 0)) 2 2 3 .exact), (.slc none 0 0 0 .exact), (.map (some 12)), (i 8)]) (.n (.n wd162 (I [0]) (.n wd163 (I [3]) wd165)) (I [2]) wd1481)
def wd1483 : T AObj := .n wd1479 (C [(i 4), (i 3), (.slc (some (0, 0)) 1 1 3 .exact), (.slc (some (1, 0)) 1 1 3 .exact)]) wd1482
def wd1484 : T AObj := .n wd177 (I [1]) (.n (.n (L (I [2])) (I [2]) (L (I [1]))) (I [0]) (.n (L (I [3])) (I [10]) .e))
def wd1485 : T AObj := .n (.n wd1484 none wd180) none (.n (.n wd181 (I [5]) wd182) (I [4,1,3,2,2,1,3,0]) wd184)
def wd1486 : T AObj := .n (.n (.n (L (I [4])) (I [6]) (L (I [2]))) (I [2]) (.n (L (I [3])) none .e)) (I []) wd212
def wd1487 : T AObj := .n (.n wd207 (I [1]) (.n wd208 (I [1]) (.n wd209 (I [3,1]) (.n (L (I [0])) (I [2]) .e)))) (I [7,0]) (.n wd211 (I [1]) wd1486)
def wd1488 : T AObj := .n (.n wd1485 (C [(.bool true)]) wd195) (I [5,6]) (.n wd205 (C [(.ptr (some (13, 0)))]) wd1487)
def wd1489 : T AObj := .n (.n (.n (L (I [2])) (I [3]) (L (I [0,2]))) (I [2]) (.n (L (I [6])) (I [1]) .e)) (I [5]) wd249
def wd1490 : T AObj := .n (.n (.n wd234 none wd236) (I [1]) (.n wd239 (I [3,0]) wd240)) (I [2,1]) (.n wd245 (C [(.bool true)]) (.n wd247 (I [10]) wd1489))
def wd1491 : T AObj := .n (.n wd224 none wd232) (some (.map [((.agg [(i 7), (i 0)]), (i 1), 0), ((.agg [(i 9), (i 1)]), (i 1), 1), ((.agg [(i 5), (i 1)]), (i 1), 2), ((.agg [(i 4), (i 2)]), (i 1), 3), ((.agg [(i 5), (i 2)]), (i 1), 4), ((.agg [(i 1), (i 3)]), (i 1), 5), ((.agg [(i 5), (i 3)]), (i 1), 6), ((.agg [(i 11), (i 0)]), (i 1), 7), ((.agg [(i 7), (i 1)]), (i 1), 8), ((.agg [(i 3), (i 0)]), (i 1), 9), ((.agg [(i 7), (i 3)]), (i 1), 10), ((.agg [(i 10), (i 1)]), (i 1), 11), ((.agg [(i 6), (i 1)]), (i 1), 12), ((.agg [(i 5), (i 0)]), (i 1), 13), ((.agg [(i 2), (i 3)]), (i 1), 14), ((.agg [(i 6), (i 3)]), (i 1), 15), ((.agg [(i 7), (i 2)]), (i 1), 16)] 17)) wd1490
def wd1492 : T AObj := .n wd1488 (C [(i 4), (i 3), (.slc (some (3, 0)) 2 2 3 .exact), (.slc none 0 0 0 .exact)]) wd1491
def wd1493 : T AObj := .n (.n (L (I [3,2])) (I [3,1,2,2,1,1,2,0]) (L (I [1]))) none (.n (L (I [6])) (I [3,1]) .e)
def wd1494 : T AObj := .n (.n wd283 (I [4,1]) wd284) (I [2]) (.n wd1493 (C [(.slc (some (330, 0)) 5 5 3 .tail)]) wd287)
def wd1495 : T AObj := .n (.n wd280 (I [1]) (.n wd281 (I [2,0]) wd282)) (C [(.slc (some (61, 0)) 12 12 104 .exact)]) wd1494
def wd1496 : T AObj := .n (.n wd260 (C [(.slc (some (17, 0)) 12 12 104 .exact)]) wd269) (C [(i 4), (i 3), (.slc (some (3, 0)) 2 2 3 .exact), (.slc none 0 0 0 .exact)]) (.n wd278 none wd1495)
def wd1497 : T AObj := .n (.n (L none) (I [2,2]) (L (I [2]))) (I [3,0]) (.n (L (I [3,1,2,2,1,1,2,0])) (I [2]) .e)
def wd1498 : T AObj := .n (.n wd315 (I [7]) wd317) (C [(.slc (some (61, 0)) 12 12 104 .exact)]) (.n wd319 (I [1,1]) (.n wd1497 (I [5]) wd321))
def wd1499 : T AObj := .n wd305 (C [(.slc (some (17, 0)) 12 12 104 .exact)]) (.n (.n wd310 (I [1]) (.n (.n wd311 (I [4]) wd312) (I [0]) wd314)) (I [1]) wd1498)
def wd1500 : T AObj := .n wd1496 (C [(i 4), (i 3), (.slc (some (3, 0)) 2 2 3 .exact), (.slc none 0 0 0 .exact)]) wd1499
def wd1501 : T AObj := .n wd1492 (C [(i 4), (i 3), (.slc (some (0, 0)) 1 1 3 .exact), (.slc (some (1, 0)) 1 1 3 .exact)]) wd1500
set_option maxHeartbeats 0 in
theorem ws6 : (itO ft oraNone 19993).exec (a18.body.snd.snd.snd.snd.snd.snd.fst) wd1337 ⟨(.n (.n (.n wd1352 (I [5,7]) wd1367) (I [6]) wd1398) (I [5]) wd1461), 781, 0⟩ = some (.normal, wd1468, ⟨(.n (.n (.n wd1470 (I [5,7]) wd1474) (I [6]) wd1483) (I [5]) wd1501), 1912, 0⟩) := by kernel_rfl
end Go.AM
