/- The run of function 18, a part of its statements: reckoned by the kernel. Printed by closed2.py. -/
import Derived.Test.YtbapopkhebnbpaaWk4
set_option linter.all false
set_option linter.unusedVariables false
set_option linter.unusedSimpArgs false
set_option linter.unusedSectionVars false
namespace Go.AM
open Go Go.Proofs Sh
set_option maxRecDepth 1000000
def wd1529 : T AV := .n (L (some (.slc (some (1911, 0)) 3 3 3 .tail))) (some (.slc (some (1, 0)) 1 1 3 .exact)) (L (some (.agg [(i 1), (i 1), (.str [69, 69, 78, 78, 87, 83, 87, 83])])))
def wd1530 : T AV := .n wd1529 (some (.ptr (some (3402, 0)))) (.n (L (J 0)) (some (.tup [(i 0), (i 19)])) .e)
def wd1531 : T AV := .n wd10 (J 0) (.n wd1530 (J 1) (.n (.n wd1 (some (.slc (some (7, 0)) 2 2 3 .exact)) .e) none wd12))
def wd1532 : T AV := .n (.n (.n wd0 (J 8) wd2) (J 6) (.n wd1287 (some (.slc (some (1911, 0)) 3 3 3 .tail)) wd6)) (some (.ptr (some (5, 0)))) wd1531
def wd1533 : T AV := .n wd1532 (some (.bool false)) (.n (.n wd1290 (J 0) wd1292) (some (.ptr (some (6, 0)))) wd1294)
def wd1534 : T AObj := .n (L (I [3])) (I [10,3]) (L (C [(i 1), (i 1), (.str [69, 69, 78, 78, 87, 83, 87, 83])]))
def wd1535 : T AObj := .n (.n (.n (L (I [1])) (I [0,0]) .e) (I [2,3]) (.n (L (I [10])) (I [1]) .e)) (I [11,3,10,2,0]) (.n wd1534 none (.n (L (I [-1])) (I [0]) .e))
def wd1536 : T AObj := .n (.n wd1185 (I [2,2,1,3,0,2,1,1]) (.n wd1186 (I [1]) wd1187)) (I [1]) (.n wd1535 (I [6]) wd1190)
def wd1537 : T AObj := .n (.n wd1167 (C [(.slc (some (17, 0)) 12 12 104 .exact)]) (.n wd1175 (I [7]) wd1184)) (C [(i 4), (i 3), (.slc (some (3, 0)) 2 2 3 .exact), (.slc none 0 0 0 .exact)]) (.n (.n wd1536 none wd1199) none wd1216)
def wd1538 : T AObj := .n wd1537 (C [(i 4), (i 3), (.slc (some (3, 0)) 2 2 3 .exact), (.slc none 0 0 0 .exact)]) wd1283
def wd1539 : T AObj := .n wd1151 (C [(i 4), (i 3), (.slc (some (0, 0)) 1 1 3 .exact), (.slc (some (1, 0)) 1 1 3 .exact)]) wd1538
set_option maxHeartbeats 0 in
theorem ws11 : (itO ft oraNone 19988).exec (a18.body.snd.snd.snd.snd.snd.snd.snd.snd.snd.snd.snd.fst) wd1295 ⟨(.n wd1017 (I [5]) wd1285), 3402, 0⟩ = some (.normal, wd1533, ⟨(.n wd1017 (I [5]) wd1539), 3403, 0⟩) := by kernel_rfl
def wd1540 : T AV := .n (.n (L (some (.tup [(i 1), (i 0)]))) (some (.slc (some (3, 0)) 2 2 3 .exact)) (L (J 19))) none (.n wd1 (J 19) .e)
def wd1541 : T AV := .n (.n wd0 (J 8) wd1540) (J 6) (.n wd1287 (some (.slc (some (1911, 0)) 3 3 3 .tail)) wd6)
def wd1542 : T AV := .n (L (J 0)) (some (.agg [(i 4), (i 3), (.slc (some (0, 0)) 1 1 3 .exact), (.slc (some (1, 0)) 1 1 3 .exact)])) (L (some (.agg [(i 0), (i 0), (.str [69, 69, 87, 87])])))
def wd1543 : T AV := .n (.n (.n wd1293 (J 11) wd21) (J 0) wd22) (J 19) (.n (.n wd1542 (J 19) (.n (L (some (.tup [(i 0), (i 11)]))) (J 0) .e)) (J 0) wd24)
def wd1544 : T AV := .n (.n wd1541 (some (.ptr (some (5, 0)))) wd1531) (some (.bool false)) (.n (.n wd1290 (J 0) wd1292) (some (.ptr (some (6, 0)))) wd1543)
set_option maxHeartbeats 0 in
theorem ws12 : (itO ft oraNone 19987).exec (a18.body.snd.snd.snd.snd.snd.snd.snd.snd.snd.snd.snd.snd.fst) wd1533 ⟨(.n wd1017 (I [5]) wd1539), 3403, 0⟩ = some (.normal, wd1544, ⟨(.n wd1017 (I [5]) wd1539), 3403, 0⟩) := by kernel_rfl
def wd1545 : T AV := .n (.n (L (some (.tup [(i 1), (i 0)]))) (some (.slc (some (3, 0)) 2 2 3 .exact)) (L (J 19))) (some (.slc (some (3423, 0)) 3 3 3 .tail)) (.n wd1 (J 19) .e)
def wd1546 : T AV := .n (L (J 0)) (some (.agg [(i 4), (i 3), (.slc (some (0, 0)) 1 1 3 .exact), (.slc (some (1, 0)) 1 1 3 .exact)])) (L (some (.slc (some (3423, 0)) 3 3 3 .tail)))
def wd1547 : T AV := .n wd1546 none (.n (L (some (.agg [(.slc (some (1918, 0)) 2 2 3 .exact), (i (-1))]))) (J 8) .e)
def wd1548 : T AV := .n (.n wd0 (J 8) wd1545) (J 6) (.n wd1287 (some (.slc (some (1911, 0)) 3 3 3 .tail)) wd1547)
def wd1549 : T AV := .n (L (some (.tup [(i 1), (i 0)]))) (some (.agg [(i 4), (i 3), (.slc (some (3, 0)) 2 2 3 .exact), (.slc none 0 0 0 .exact)])) (L (some (.agg [(i 1), (i 1), (.str [69, 69, 78, 78, 87, 83, 87, 83])])))
def wd1550 : T AV := .n (.n (.n (L (J 0)) none wd3) (J 0) wd7) (some (.slc (some (780, 0)) 2 2 3 .exact)) (.n wd1549 none wd9)
def wd1551 : T AV := .n wd1550 (J 0) (.n wd1530 (J 1) (.n (.n wd1 (some (.slc (some (7, 0)) 2 2 3 .exact)) .e) none wd12))
def wd1552 : T AV := .n wd3 (some (.slc (some (3, 0)) 2 2 3 .exact)) (L (some (.tup [(.slc (some (3423, 0)) 3 3 3 .tail), (i 0)])))
def wd1553 : T AV := .n wd1552 (J 0) (.n (L (some (.slc (some (1917, 0)) 2 2 3 .exact))) (some (.tup [(i 8), (i 0)])) .e)
def wd1554 : T AV := .n (.n wd1289 (J 0) (.n (L (some (.slc (some (1913, 0)) 2 2 3 .exact))) (J 0) .e)) (J 0) wd1553
def wd1555 : T AV := .n (.n (L (some (.tup [(i 2), (i 0)]))) (some (.slc (some (7, 0)) 2 2 3 .exact)) (L (J 0))) none (.n (L (some (.slc (some (1919, 0)) 2 2 81 .exact))) (J 0) .e)
def wd1556 : T AV := .n (.n wd1291 (J 0) (.n (L (J 2)) (some (.slc (some (8, 0)) 2 2 3 .exact)) .e)) (J 0) wd1555
def wd1557 : T AV := .n (L (J 1)) (some (.tup [(i 6), (i 0)])) (L (some (.tup [(.slc (some (3423, 0)) 3 3 3 .tail), (i 0)])))
def wd1558 : T AV := .n wd1557 none (.n (L (some (.slc (some (1918, 0)) 2 2 3 .exact))) (some (.tup [(i 8), (i 0)])) .e)
def wd1559 : T AV := .n (.n (.n wd1293 (J 11) wd21) (J 0) wd1558) (J 19) (.n (.n wd1542 (J 19) (.n (L (some (.tup [(i 0), (i 11)]))) (J 0) .e)) (J 0) wd24)
def wd1560 : T AV := .n (.n wd1548 (some (.ptr (some (5, 0)))) wd1551) (some (.bool false)) (.n (.n wd1554 (J 0) wd1556) (some (.ptr (some (6, 0)))) wd1559)
def wd1561 : T AObj := .n (.n (.n (L (I [1])) (I [5]) (L none)) (I [1]) (.n (L (I [0])) (I [0]) .e)) (I [2,1,1,2,0,1,1,0]) (.n (.n (L (I [2])) (I [1]) (L (I [9,10,18]))) none (.n (L (I [1])) (I [1]) .e))
def wd1562 : T AObj := .n (.n (.n wd755 (I [2]) wd756) (C [(.ptr (some (13, 0)))]) wd757) none (.n wd1561 (I [4]) wd759)
def wd1563 : T AObj := .n (.n (L none) (C [(.bool true)]) (L (I [2,1]))) (I [6]) (.n (L (I [1,1])) (I [10]) .e)
def wd1564 : T AObj := .n (.n (.n wd761 (I [1]) wd762) (I [1]) wd764) (I [2]) (.n (.n wd765 (I [1,3]) wd1563) (I [3,1]) (.n wd767 (I [3]) wd768))
def wd1565 : T AObj := .n wd1564 (I [7,6,9,4,1]) (.n (.n wd771 none (.n wd772 (I [5]) wd773)) (I [3]) (.n wd775 (I [4,2]) wd777))
def wd1566 : T AObj := .n (.n (.n (.n (.n wd747 none wd748) (I [1]) wd750) (I []) wd754) (I [6]) wd1562) (I [7,0]) wd1565
def wd1567 : T AObj := .n (.n (L (I [10])) (C [(.ptr (some (785, 0)))]) (L (I [0,0,0,0,0,0,0,0]))) (I [0]) (L (I [2,3]))
def wd1568 : T AObj := .n (.n wd797 (C [(.bool true)]) wd799) (I [1,0]) (.n (.n wd800 (I []) wd1567) (I [1,1]) wd803)
def wd1569 : T AObj := .n (.n (L (I [3])) (I [1]) (L (I [0,0,0,0,0,0,0,0]))) none (.n (L (I [0,0,0,1])) none .e)
def wd1570 : T AObj := .n (.n (.n (L (I [8])) (I [2,1,1,2,0,1,1,0]) (L (I [1]))) (I [7]) (.n (L none) none .e)) (I [6]) wd1569
def wd1571 : T AObj := .n wd1570 (I [1,1,0,2,-1,1,0,0]) (.n wd827 (I [2,0]) (.n (L (I [-1,0])) (I [4]) (L (I [2]))))
def wd1572 : T AObj := .n (.n (L (I [1])) none (L (I [2,3]))) (I [2]) (.n (L (I [0])) (I [3,2,2,3,1,2,2,1]) .e)
def wd1573 : T AObj := .n (.n (.n wd829 (I [5,1]) wd830) (I [0]) (.n (.n wd831 (I [11,0]) wd1572) (I [2]) wd834)) none wd841
def wd1574 : T AObj := .n (.n (L none) (I [5,0]) (L (C [(i 1), (i 1), (.str [69, 69, 78, 78, 87, 83, 87, 83])]))) (I [2,1,1,2,0,1,1,0]) (.n (L (C [(.ptr (some (1926, 0)))])) (I [2]) .e)
def wd1575 : T AObj := .n (.n (.n wd843 (I [1]) wd844) (I [2,2]) (.n wd845 (I [2,2]) wd846)) (I [6]) (.n (.n wd847 (I [1,-1]) wd1574) (C [(.ptr (some (13, 0)))]) (.n wd849 (I [2,1]) wd850))
def wd1576 : T AObj := .n wd1575 (I [1,0]) (.n (.n wd853 (I [0,1]) wd856) (I [1]) (.n wd857 (I [1,11,3,10,2,8]) wd859))
def wd1577 : T AObj := .n (.n (L (I [1])) (I [2,1]) (L (I [10]))) (I [1,0]) (.n (L (C [(.slc (some (2871, 0)) 2 2 3 .tail), (i 2)])) (I [1]) .e)
def wd1578 : T AObj := .n (.n (.n wd862 none wd864) none (.n (.n wd865 (I [5]) wd1577) (I [2]) wd867)) (I [9,1]) (.n (.n (.n wd868 (I [1]) wd869) (I [4]) (.n wd870 (I [0]) wd871)) (I [2]) wd877)
def wd1579 : T AObj := .n (.n (.n wd822 (I [2]) (.n (.n wd823 (I [2,1]) wd825) none wd1571)) (I []) wd1573) (C [(i 4), (i 3), (.slc (some (3, 0)) 2 2 3 .exact), (.slc none 0 0 0 .exact)]) (.n wd1576 (I [2,1,1,2,0,1,1,0]) wd1578)
def wd1580 : T AObj := .n (.n wd1566 (I [4,5]) (.n (.n wd788 (I [0]) wd796) (I [5]) (.n wd1568 none wd812))) (I [5,7]) wd1579
def wd1581 : T AObj := .n (.n (L (I [3])) (I [0,1]) (L (I [0,0,0,0,0,0,0,0]))) (C [(.ptr (some (785, 0)))]) (.n (L (I [5])) (C [(.ptr (some (785, 0)))]) .e)
def wd1582 : T AObj := .n (.n wd893 (I [2]) wd1581) (I [4]) (.n wd895 (I [1]) (.n (.n (L (I [4,1])) (I [0]) .e) (I [2]) (.n (L (I [4,1])) none .e)))
def wd1583 : T AObj := .n (.n (L (I [3,1])) (C [(.slc (some (1360, 0)) 12 12 104 .exact)]) (L (I [3,2]))) (I [1,2]) (.n (L (I [1])) (I [10]) .e)
def wd1584 : T AObj := .n (.n wd900 none (.n (.n wd901 (I [1,1]) wd1583) (I [1]) wd903)) (C [(.ptr (some (13, 0)))]) (.n (.n wd905 (I [1]) wd907) (I [6]) (.n wd909 (I [5,2]) wd910))
def wd1585 : T AObj := .n (.n wd888 (I [1,2]) (.n (.n (.n wd889 (I [3,0]) wd890) none wd892) (I [4,1]) wd1582)) (I [-1,-1,5,3,-1,-1,-1,-1,5,2,5,-1,5,0,7,-1,-1,-1,5,1,-1,-1,-1,-1]) wd1584
def wd1586 : T AObj := .n (.n wd935 (I [1]) (.n (L (I [0,1])) (I [2]) .e)) (C [(.slc (some (407, 1)) 3 3 3 .tail)]) (.n (.n (L (I [1,1])) none (L (I [9]))) (I [4]) (.n (L (I [0])) (I [3]) .e))
def wd1587 : T AObj := .n wd929 (I [5]) (.n (.n wd934 (I [0]) (.n wd1586 (I [1]) (.n wd937 (I [3]) wd938))) (I [7,0]) wd946)
def wd1588 : T AObj := .n wd1585 (C [(i 4), (i 3), (.slc (some (3, 0)) 2 2 3 .exact), (.slc none 0 0 0 .exact)]) wd1587
def wd1589 : T AObj := .n (.n (L (I [2])) (C [(.fn 100 [(.ptr (some (785, 0)))] [])]) (L (I [1,2]))) none (.n (L (I [-1,1])) (I [3]) .e)
def wd1590 : T AObj := .n (.n wd967 (I [-1,-1,-1,-1,6,3,7,3,-1,-1,5,-1,5,0,7,-1,-1,-1,-1,-1,6,1,7,1]) wd1589) (I [10]) (.n wd969 (I [6]) wd970)
def wd1591 : T AObj := .n (.n wd956 none wd962) (C [(.slc (some (47, 1)) 4 4 3 .tail)]) (.n (.n wd966 (I [4]) wd1590) (I [4,1]) wd979)
def wd1592 : T AObj := .n (L (C [(.ptr (some (1926, 0)))])) (C [(.slc (some (1360, 0)) 12 12 104 .exact)]) (L (I [1,1]))
def wd1593 : T AObj := .n (.n (.n wd981 (I [1]) wd983) (I [2]) wd985) (I [1,2]) (.n (.n wd986 (I [-1]) (.n wd1592 (I [2]) (.n (L none) (I [1]) .e))) none wd988)
def wd1594 : T AObj := .n (.n wd1003 (I [0,1]) (.n (L (I [1])) (I [3,0]) .e)) (I [5]) (.n (.n (L (I [2])) (I [1]) (L (I [0,0,1,0,0,0,0,0]))) (I [0]) (.n wd1004 (I [2,1]) .e))
def wd1595 : T AObj := .n (.n wd1002 (C [(.ptr (some (13, 0)))]) (.n wd1594 (I [2]) (.n wd1006 (I [2]) wd1007))) (I [-1,-1,5,3,6,3,7,3,5,2,5,-1,5,0,7,-1,-1,-1,5,1,6,1,7,1]) (.n (.n wd1008 (I [3,2]) (.n wd1009 (I [1,0]) wd1010)) none wd1013)
def wd1596 : T AObj := .n wd1591 (C [(i 4), (i 3), (.slc (some (3, 0)) 2 2 3 .exact), (.slc none 0 0 0 .exact), (.map (some 12)), (i 8)]) (.n (.n wd1593 (I [0]) wd997) (I [2]) wd1595)
def wd1597 : T AObj := .n wd1588 (C [(i 4), (i 3), (.slc (some (0, 0)) 1 1 3 .exact), (.slc (some (1, 0)) 1 1 3 .exact)]) wd1596
def wd1598 : T AObj := .n (.n (L (I [3,10,2])) (I [2]) (L (I [0,0,0,0,0,0,0,0]))) (I [7]) (.n (L (C [(.slc (some (2951, 0)) 2 2 3 .tail), (i 3)])) (I [11]) .e)
def wd1599 : T AObj := .n (.n wd1031 (I [2,1]) wd1598) (C [(.ptr (some (13, 0)))]) (.n wd1033 (I [1,1]) wd1034)
def wd1600 : T AObj := .n (.n wd1022 none (.n wd1024 (I [11]) wd1026)) none (.n (.n wd1028 (I [5]) (.n wd1029 (I [11,0]) wd1030)) (I [4,1,3,2,2,1,3,0]) wd1599)
def wd1601 : T AObj := .n (L (I [3,1,2,2,1,1,2,0])) (I [-1,-1,2,2,6,3,2,0,-1,-1,5,-1,7,2,7,-1,-1,-1,-1,-1,-1,-1,-1,-1]) (L (I [3,1]))
def wd1602 : T AObj := .n (.n wd1040 (I [5,3]) (.n wd1601 none (.n (L (I [1])) (C [(.ptr (some (785, 0)))]) .e))) (I [3]) wd1042
def wd1603 : T AObj := .n (.n (.n (.n wd1037 none wd1038) (I [3]) wd1039) (I [9]) wd1602) (I [7]) (.n (.n wd1044 (I [1,0]) (.n wd1045 none wd1046)) none wd1051)
def wd1604 : T AObj := .n (.n (L none) (I [5]) (L (I [0,1,1,0,0,0,0,0]))) (I [1]) (.n (L (I [0,0])) (I [2]) .e)
def wd1605 : T AObj := .n (.n (.n (L (I [4])) (C [(.bool true)]) (L (I [5]))) (I [2]) (.n (L (I [2])) (I [3]) .e)) none wd1604
def wd1606 : T AObj := .n wd1605 (I [1]) (.n wd1071 (I [3,1]) (.n (.n (L (I [1])) (I [0]) .e) (I [2]) (.n (L (I [3,0])) none .e)))
def wd1607 : T AObj := .n (.n (.n (.n wd1053 (I [9]) wd1054) (I [2,1]) wd1058) (I [1]) wd1065) (C [(.ptr (some (13, 0)))]) (.n (.n wd1069 (I [1]) wd1606) (I [7,0]) (.n wd1075 (I [1]) (.n wd1076 (I []) wd1078)))
def wd1608 : T AObj := .n (.n (L none) (I [1,0]) (L (I [0,0,0,0,0,0,0,0]))) (I [4,1,3,2,2,1,3,0]) (.n (L (C [(.ptr (some (1926, 0)))])) (I [4,2,3,3,2,2,3,1]) .e)
def wd1609 : T AObj := .n (.n (.n wd1089 (I [3]) wd1090) (I [2]) wd1092) (I [3,2]) (.n (.n wd1093 none wd1608) (I [1,1]) wd1096)
def wd1610 : T AObj := .n (.n (L (I [2,2])) (C [(.slc (some (1438, 0)) 2 2 3 .tail)]) (L (I [2,2]))) (I [9]) (.n (L (I [2])) (I [3,2]) .e)
def wd1611 : T AObj := .n (.n (.n wd1098 none wd1099) (I [9,3]) wd1101) (I [1]) (.n (.n wd1102 (C [(.bool true)]) wd1610) (I [2]) wd1105)
def wd1612 : T AObj := .n (.n wd1088 (I [9]) wd1609) none (.n wd1611 (I [4,1,3,2,2,1,3,0]) (.n (.n wd1107 none wd1109) none wd1114))
def wd1613 : T AObj := .n .e (I [0,0,0,0,0,0,0,0,0,1,1,0,0,0,0,0,0,0,1,0,0,0,0,0,0,0,0,0,0,0,0,0,0,0,0,0,0,0,0,0,0,0,0,0,0,0,0,0,0,0,0,0,0,0,0,0,0,0,0,0,0,0,0,0]) .e
def wd1614 : T AObj := .n wd1119 (I [1]) (.n (.n (L (I [6])) (I [6,2]) wd1613) (I [2,1]) (.n (L (I [4])) (I [1,1]) .e))
def wd1615 : T AObj := .n (.n (.n (.n wd1116 (I [1,0]) wd1117) (I [2]) wd1118) none (.n wd1614 (I [6]) wd1122)) (I [1]) wd1130
def wd1616 : T AObj := .n (.n (L (I [2,0])) (I [2]) (L none)) (I [1]) (.n (L (C [(.slc (some (2871, 0)) 2 2 3 .tail), (i 2)])) (I [2]) .e)
def wd1617 : T AObj := .n (.n wd1136 (I [7]) (.n (.n wd1137 (C [(.ptr (some (13, 0)))]) wd1616) (I [0]) wd1140)) (C [(.bool true)]) (.n (.n wd1142 none wd1144) (I [10]) (.n wd1146 (I [5]) wd1148))
def wd1618 : T AObj := .n wd1612 (some (.map [((.agg [(i 7), (i 0)]), (i 1), 0), ((.agg [(i 9), (i 1)]), (i 1), 1), ((.agg [(i 5), (i 1)]), (i 1), 2), ((.agg [(i 4), (i 2)]), (i 1), 3), ((.agg [(i 5), (i 2)]), (i 1), 4), ((.agg [(i 1), (i 3)]), (i 1), 5), ((.agg [(i 5), (i 3)]), (i 1), 6), ((.agg [(i 11), (i 0)]), (i 1), 7), ((.agg [(i 7), (i 1)]), (i 1), 8), ((.agg [(i 3), (i 0)]), (i 1), 9), ((.agg [(i 7), (i 3)]), (i 1), 10), ((.agg [(i 10), (i 1)]), (i 1), 11), ((.agg [(i 6), (i 1)]), (i 1), 12), ((.agg [(i 5), (i 0)]), (i 1), 13), ((.agg [(i 2), (i 3)]), (i 1), 14), ((.agg [(i 6), (i 3)]), (i 1), 15), ((.agg [(i 7), (i 2)]), (i 1), 16)] 17)) (.n wd1615 (I [2,1]) wd1617)
def wd1619 : T AObj := .n (.n (.n wd1600 (C [(.bool true)]) wd1603) (I [5,6]) wd1607) (C [(i 4), (i 3), (.slc (some (3, 0)) 2 2 3 .exact), (.slc none 0 0 0 .exact)]) wd1618
def wd1620 : T AObj := .n (.n (L (C [(.ptr (some (1926, 0)))])) (I [0]) (L (I [0,0,0,0,0,0,0,0]))) (I [7]) (.n (L (C [(.slc (some (2951, 0)) 2 2 3 .tail), (i 3)])) (I [11]) .e)
def wd1621 : T AObj := .n (.n (.n (L (I [2])) none (L (I [2]))) (I [0]) (.n (L (I [5])) (I [8]) .e)) (I [1]) wd1620
def wd1622 : T AObj := .n wd1159 (I [1]) (.n (.n wd1161 (I [2,1,1,2,0,1,1,0]) wd1162) (I [4]) (.n wd1621 none wd1166))
def wd1623 : T AObj := .n wd1171 (C [(.slc (some (341, 0)) 12 12 104 .exact)]) (.n (.n (L (I [3])) (I []) (L (I [3,3]))) (I [1]) (.n (L (I [0,2])) none .e))
def wd1624 : T AObj := .n (.n (.n wd1168 (C [(.ptr (some (13, 0)))]) wd1169) (I [9,1]) wd1170) (I [0,1]) (.n wd1623 (I [2,2]) wd1174)
def wd1625 : T AObj := .n wd1203 (C [(.fn 100 [(.ptr (some (13, 0)))] [])]) (.n (.n (L (I [1])) (I [2,1,1,2,0,1,1,0]) (L none)) none (.n (L (I [0])) (I [1,2]) .e))
def wd1626 : T AObj := .n wd1625 (I [2,0]) (.n wd1205 (I [1]) (.n (.n (L (I [1])) (I [0]) .e) none (.n (L (I [0])) (I [4,1]) .e)))
def wd1627 : T AObj := .n (.n (.n wd1201 (I []) wd1202) (I [1]) wd1626) (C [(.slc (some (61, 0)) 12 12 104 .exact)]) wd1215
def wd1628 : T AObj := .n (.n wd1622 (C [(.slc (some (17, 0)) 12 12 104 .exact)]) (.n wd1624 (I [7]) wd1184)) (C [(i 4), (i 3), (.slc (some (3, 0)) 2 2 3 .exact), (.slc none 0 0 0 .exact)]) (.n (.n wd1536 none wd1199) none wd1627)
def wd1629 : T AObj := .n wd1238 (C [(.slc (some (341, 0)) 12 12 104 .exact)]) (.n (.n (L (I [2])) (I [5]) (L (I [1,1]))) (I [0,1]) (.n (L (I [-1])) (I [2]) .e))
def wd1630 : T AObj := .n (.n wd1236 none (.n wd1629 none (.n wd1240 none wd1241))) (I [4]) (.n (.n wd1242 (C [(.ptr (some (13, 0)))]) wd1244) (I [3,1]) wd1248)
def wd1631 : T AObj := .n (.n wd1226 (I [0,1]) (.n (.n wd1228 (I [6]) wd1230) (I [2]) (.n wd1231 (I [1]) wd1232))) (C [(.fn 100 [(.ptr (some (13, 0)))] [])]) wd1630
def wd1632 : T AObj := .n .e (C [(.int .u8 69), (.int .u8 69), (.int .u8 78), (.int .u8 78), (.int .u8 87), (.int .u8 83), (.int .u8 87), (.int .u8 83)]) .e
def wd1633 : T AObj := .n wd1255 (I [1,3]) (.n (.n (L (I [6])) (I [2,3]) wd1632) (I [1]) (.n (L (I [1,1,0,2,-1,1,0,0])) (I [1]) .e))
def wd1634 : T AObj := .n (.n (.n wd1251 (I [0]) wd1252) (I [1,3]) (.n wd1253 (I [10]) wd1254)) (I [1]) (.n wd1633 (I [3,1,2,2,1,1,2,0]) wd1258)
def wd1635 : T AObj := .n (.n (L (I [0])) (I [1,2]) (L (I [18]))) (I [1]) (.n (L (C [(.ptr (some (1926, 0)))])) (I [2]) .e)
def wd1636 : T AObj := .n (.n (.n wd1269 (I [5]) wd1271) (I [7]) (.n (.n wd1272 none wd1635) none wd1274)) (C [(.slc (some (61, 0)) 12 12 104 .exact)]) (.n wd1278 (I [1,1]) (.n wd1279 (I [5]) (.n wd1280 (C [(.ptr (some (13, 0)))]) wd1281)))
def wd1637 : T AObj := .n wd1631 (C [(.slc (some (17, 0)) 12 12 104 .exact)]) (.n (.n wd1634 (I [1]) wd1268) (I [1]) wd1636)
def wd1638 : T AObj := .n wd1628 (C [(i 4), (i 3), (.slc (some (3, 0)) 2 2 3 .exact), (.slc none 0 0 0 .exact)]) wd1637
def wd1639 : T AObj := .n wd1619 (C [(i 4), (i 3), (.slc (some (0, 0)) 1 1 3 .exact), (.slc (some (1, 0)) 1 1 3 .exact)]) wd1638
set_option maxHeartbeats 0 in
theorem ws13 : (itO ft oraNone 19986).exec (a18.body.snd.snd.snd.snd.snd.snd.snd.snd.snd.snd.snd.snd.snd.fst) wd1544 ⟨(.n wd1017 (I [5]) wd1539), 3403, 0⟩ = some (.normal, wd1560, ⟨(.n (.n wd1580 (I [6]) wd1597) (I [5]) wd1639), 3429, 0⟩) := by kernel_rfl
def wd1640 : T AV := .n (L (some (.agg [(.slc (some (1912, 0)) 2 2 3 .exact), (i (-1))]))) (J 6) (L (some (.tup [(i 3), (.bool true), (i 0)])))
def wd1641 : T AV := .n (.n (L (some (.tup [(.slc (some (780, 0)) 2 2 3 .exact), (i 0)]))) none (L (J 11))) (J 2) wd1640
def wd1642 : T AV := .n wd1546 (J 0) (.n (L (some (.agg [(.slc (some (1918, 0)) 2 2 3 .exact), (i (-1))]))) (J 8) .e)
def wd1643 : T AV := .n (.n wd1641 (J 8) wd1545) (J 6) (.n wd1287 (some (.slc (some (1911, 0)) 3 3 3 .tail)) wd1642)
def wd1644 : T AV := .n (L (some (.agg [(.slc (some (1913, 0)) 2 2 3 .exact), (i 2)]))) (some (.tup [(i 0), (i 19)])) (L (some (.bool true)))
def wd1645 : T AV := .n (.n (.n (L (J 0)) none wd3) (J 0) wd1644) (some (.slc (some (780, 0)) 2 2 3 .exact)) (.n wd1549 (J 3) wd9)
def wd1646 : T AV := .n wd1 (some (.slc (some (7, 0)) 2 2 3 .exact)) (L (some (.tup [(i 3), (.bool true), (i 0)])))
def wd1647 : T AV := .n wd1643 (some (.ptr (some (5, 0)))) (.n wd1645 (J 0) (.n wd1530 (J 1) (.n wd1646 none wd12)))
def wd1648 : T AV := .n (.n wd1289 (J 0) (.n (L (some (.slc (some (1913, 0)) 2 2 3 .exact))) (J 0) (L (J 3)))) (J 0) wd1553
def wd1649 : T AV := .n (L (some (.slc (some (1914, 0)) 2 2 81 .exact))) (some (.agg [(i 4), (i 3), (.slc (some (0, 0)) 1 1 3 .exact), (.slc (some (1, 0)) 1 1 3 .exact)])) (L (J 0))
def wd1650 : T AV := .n wd1557 (some (.bool true)) (.n (L (some (.slc (some (1918, 0)) 2 2 3 .exact))) (some (.tup [(i 8), (i 0)])) .e)
def wd1651 : T AV := .n (L (some (.slc (some (1912, 0)) 2 2 3 .exact))) (some (.tup [(i 6), (i 0)])) (L (some (.agg [(i 1), (i 1), (.str [69, 69, 78, 78, 87, 83, 87, 83])])))
def wd1652 : T AV := .n (.n wd1542 (J 19) (.n (L (some (.tup [(i 0), (i 11)]))) (J 0) .e)) (J 0) (.n wd1651 none wd23)
def wd1653 : T AV := .n (.n wd1648 (J 0) wd1556) (some (.ptr (some (6, 0)))) (.n (.n (.n wd1293 (J 11) wd1649) (J 0) wd1650) (J 19) wd1652)
set_option maxHeartbeats 0 in
theorem ws14 : (itO ft oraNone 19985).exec (a18.body.snd.snd.snd.snd.snd.snd.snd.snd.snd.snd.snd.snd.snd.snd.fst) wd1560 ⟨(.n (.n wd1580 (I [6]) wd1597) (I [5]) wd1639), 3429, 0⟩ = some (.normal, (.n wd1647 (some (.bool false)) wd1653), ⟨(.n (.n wd1580 (I [6]) wd1597) (I [5]) wd1639), 3429, 0⟩) := by kernel_rfl
def wd1654 : T AV := .n (.n (L (some (.tup [(.slc (some (780, 0)) 2 2 3 .exact), (i 0)]))) (J 0) (L (J 11))) (J 2) wd1640
def wd1655 : T AV := .n (.n (L (some (.tup [(i 1), (i 0)]))) (some (.slc (some (3, 0)) 2 2 3 .exact)) (L (J 19))) (some (.slc (some (3423, 0)) 3 3 3 .tail)) (.n wd1 (J 19) (L (J 3)))
def wd1656 : T AV := .n (L (some (.tup [(i 2), (i 0)]))) (some (.slc (some (8, 0)) 2 2 3 .exact)) (L (some (.tup [(i 6), (i 2), (i 3), (i 0)])))
def wd1657 : T AV := .n (.n wd1286 (some (.slc (some (3401, 0)) 8 8 81 .tail)) wd1656) (some (.slc (some (1911, 0)) 3 3 3 .tail)) wd1642
def wd1658 : T AV := .n wd1529 (some (.ptr (some (3402, 0)))) (.n (L (J 0)) (some (.tup [(i 0), (i 19)])) (L (J 6)))
def wd1659 : T AV := .n (.n (.n wd1654 (J 8) wd1655) (J 6) wd1657) (some (.ptr (some (5, 0)))) (.n wd1645 (J 0) (.n wd1658 (J 1) (.n wd1646 (J 2) wd12)))
def wd1660 : T AV := .n (L (some (.slc (some (1917, 0)) 2 2 3 .exact))) (some (.tup [(i 8), (i 0)])) (L (J 0))
def wd1661 : T AV := .n (.n wd1289 (J 0) (.n (L (some (.slc (some (1913, 0)) 2 2 3 .exact))) (J 0) (L (J 3)))) (J 0) (.n wd1552 (J 0) wd1660)
def wd1662 : T AV := .n (L (J 2)) (some (.slc (some (8, 0)) 2 2 3 .exact)) (L (some (.tup [(i 6), (i 2), (i 3), (i 0)])))
def wd1663 : T AV := .n (.n (L (some (.tup [(i 2), (i 0)]))) (some (.slc (some (7, 0)) 2 2 3 .exact)) (L (J 0))) (J 6) (.n (L (some (.slc (some (1919, 0)) 2 2 81 .exact))) (J 0) .e)
def wd1664 : T AV := .n (.n wd1542 (J 19) (.n (L (some (.tup [(i 0), (i 11)]))) (J 0) (L (J 2)))) (J 0) (.n wd1651 (J 3) wd23)
def wd1665 : T AV := .n (.n wd1661 (J 0) (.n (.n wd1291 (J 0) wd1662) (J 0) wd1663)) (some (.ptr (some (6, 0)))) (.n (.n (.n wd1293 (J 11) wd1649) (J 0) wd1650) (J 19) wd1664)
set_option maxHeartbeats 0 in
theorem ws15 : (itO ft oraNone 19984).exec (a18.body.snd.snd.snd.snd.snd.snd.snd.snd.snd.snd.snd.snd.snd.snd.snd.fst) (.n wd1647 (some (.bool false)) wd1653) ⟨(.n (.n wd1580 (I [6]) wd1597) (I [5]) wd1639), 3429, 0⟩ = some (.normal, (.n wd1659 (some (.bool false)) wd1665), ⟨(.n (.n wd1580 (I [6]) wd1597) (I [5]) wd1639), 3429, 0⟩) := by kernel_rfl
def wd1666 : T AV := .n (L (some (.bool false))) (some (.tup [(.slc (some (780, 0)) 2 2 3 .exact), (i 0)])) .e
def wd1667 : T AV := .n (L (some (.bool false))) (some (.agg [(.slc (some (1912, 0)) 2 2 3 .exact), (i (-1))])) .e
def wd1668 : T AV := .n (.n wd1666 (J 0) (.n (L (some (.bool false))) (J 11) .e)) (J 2) (.n wd1667 (J 6) (L (some (.tup [(i 3), (.bool true), (i 0)]))))
def wd1669 : T AV := .n (.n (L (some (.bool false))) (some (.tup [(i 1), (i 0)])) .e) (some (.slc (some (3, 0)) 2 2 3 .exact)) (.n (L (some (.bool false))) (J 19) .e)
def wd1670 : T AV := .n (L (some (.bool false))) (some (.agg [(i 4), (i 3), (.slc (some (0, 0)) 1 1 3 .exact), (.slc (some (1, 0)) 1 1 3 .exact)])) .e
def wd1671 : T AV := .n wd1668 (J 8) (.n wd1669 (some (.slc (some (3423, 0)) 3 3 3 .tail)) (.n wd1670 (J 19) (L (J 3))))
def wd1672 : T AV := .n (L (some (.bool false))) (some (.agg [(i 4), (i 3), (.slc (some (3, 0)) 2 2 3 .exact), (.slc none 0 0 0 .exact)])) .e
def wd1673 : T AV := .n wd1672 (some (.slc (some (0, 0)) 1 1 3 .exact)) (.n (L (some (.bool false))) (some (.slc (some (3401, 0)) 8 8 81 .tail)) .e)
def wd1674 : T AV := .n (.n (L (some (.bool false))) (some (.tup [(i 2), (i 0)])) .e) (some (.slc (some (8, 0)) 2 2 3 .exact)) (L (some (.tup [(i 6), (i 2), (i 3), (i 0)])))
def wd1675 : T AV := .n (.n (L (some (.bool false))) (J 0) .e) (some (.agg [(i 4), (i 3), (.slc (some (0, 0)) 1 1 3 .exact), (.slc (some (1, 0)) 1 1 3 .exact)])) (L (some (.slc (some (3423, 0)) 3 3 3 .tail)))
def wd1676 : T AV := .n (L (some (.bool false))) (some (.agg [(.slc (some (1918, 0)) 2 2 3 .exact), (i (-1))])) .e
def wd1677 : T AV := .n (.n wd1673 (some (.slc (some (3401, 0)) 8 8 81 .tail)) wd1674) (some (.slc (some (1911, 0)) 3 3 3 .tail)) (.n wd1675 (J 0) (.n wd1676 (J 8) (L (some (.bool false)))))
def wd1678 : T AV := .n (L (some (.bool false))) (some (.agg [(.slc (some (1913, 0)) 2 2 3 .exact), (i 2)])) .e
def wd1679 : T AV := .n (.n (.n (L (some (.bool false))) (J 0) .e) none wd1672) (J 0) (.n wd1678 (some (.tup [(i 0), (i 19)])) (L (some (.bool true))))
def wd1680 : T AV := .n (L (some (.bool false))) (some (.agg [(i 1), (i 1), (.str [69, 69, 78, 78, 87, 83, 87, 83])])) .e
def wd1681 : T AV := .n (.n (L (some (.bool false))) (some (.tup [(i 1), (i 0)])) .e) (some (.agg [(i 4), (i 3), (.slc (some (3, 0)) 2 2 3 .exact), (.slc none 0 0 0 .exact)])) wd1680
def wd1682 : T AV := .n (L (some (.bool false))) (some (.agg [(.slc (some (1917, 0)) 2 2 3 .exact), (i (-1))])) .e
def wd1683 : T AV := .n wd1682 (some (.agg [(i 4), (i 3), (.slc (some (3, 0)) 2 2 3 .exact), (.slc none 0 0 0 .exact)])) (L (J 0))
def wd1684 : T AV := .n (.n (L (some (.bool false))) (some (.slc (some (1911, 0)) 3 3 3 .tail)) .e) (some (.slc (some (1, 0)) 1 1 3 .exact)) wd1680
def wd1685 : T AV := .n wd1684 (some (.ptr (some (3402, 0)))) (.n (.n (L (some (.bool false))) (J 0) .e) (some (.tup [(i 0), (i 19)])) (L (J 6)))
def wd1686 : T AV := .n wd1670 (some (.slc (some (7, 0)) 2 2 3 .exact)) (L (some (.tup [(i 3), (.bool true), (i 0)])))
def wd1687 : T AV := .n (.n (L (some (.bool false))) (some (.tup [(i 0), (i 11)])) .e) (some (.tup [(.slc (some (780, 0)) 2 2 3 .exact), (i 0)])) (L (some (.bool false)))
def wd1688 : T AV := .n (.n wd1679 (some (.slc (some (780, 0)) 2 2 3 .exact)) (.n wd1681 (J 3) wd1683)) (J 0) (.n wd1685 (J 1) (.n wd1686 (J 2) wd1687))
def wd1689 : T AV := .n (.n (L (J 0)) (some (.slc (some (780, 0)) 2 2 3 .exact)) .e) none (.n (L (J 0)) (some (.tup [(.slc (some (3401, 0)) 8 8 81 .tail), (i 0)])) .e)
def wd1690 : T AV := .n wd1689 (J 0) (.n (.n (L (J 0)) (some (.slc (some (1913, 0)) 2 2 3 .exact)) .e) (J 0) (L (J 3)))
def wd1691 : T AV := .n wd23 (some (.slc (some (3, 0)) 2 2 3 .exact)) (.n (L (J 0)) (some (.tup [(.slc (some (3423, 0)) 3 3 3 .tail), (i 0)])) .e)
def wd1692 : T AV := .n (.n (L (J 0)) (some (.slc (some (1917, 0)) 2 2 3 .exact)) .e) (some (.tup [(i 8), (i 0)])) (L (J 0))
def wd1693 : T AV := .n (.n (L (J 0)) (some (.tup [(.slc (some (1911, 0)) 3 3 3 .tail), (i 0)])) .e) (some (.slc (some (1, 0)) 1 1 3 .exact)) (.n (L (J 0)) (J 0) .e)
def wd1694 : T AV := .n (.n (L (J 11)) (J 2) .e) (some (.slc (some (8, 0)) 2 2 3 .exact)) (L (some (.tup [(i 6), (i 2), (i 3), (i 0)])))
def wd1695 : T AV := .n (.n (L (J 0)) (some (.tup [(i 2), (i 0)])) .e) (some (.slc (some (7, 0)) 2 2 3 .exact)) (L (J 0))
def wd1696 : T AV := .n wd1695 (J 6) (.n (.n (L (J 19)) (some (.slc (some (1919, 0)) 2 2 81 .exact)) .e) (J 0) (L (J 19)))
def wd1697 : T AV := .n (.n wd1690 (J 0) (.n wd1691 (J 0) wd1692)) (J 0) (.n (.n wd1693 (J 0) wd1694) (J 0) wd1696)
def wd1698 : T AV := .n (L (some (.bool false))) (some (.tup [(.slc (some (1911, 0)) 3 3 3 .tail), (i 0)])) .e
def wd1699 : T AV := .n (L (some (.bool false))) (some (.tup [(.slc (some (3401, 0)) 8 8 81 .tail), (i 0)])) .e
def wd1700 : T AV := .n (.n (L (some (.bool false))) (some (.slc (some (1914, 0)) 2 2 81 .exact)) .e) (some (.agg [(i 4), (i 3), (.slc (some (0, 0)) 1 1 3 .exact), (.slc (some (1, 0)) 1 1 3 .exact)])) (L (J 0))
def wd1701 : T AV := .n (L (some (.bool false))) (some (.tup [(.slc (some (3423, 0)) 3 3 3 .tail), (i 0)])) .e
def wd1702 : T AV := .n (.n (L (some (.bool false))) (some (.slc (some (1918, 0)) 2 2 3 .exact)) .e) (some (.tup [(i 8), (i 0)])) (L (some (.bool false)))
def wd1703 : T AV := .n (.n (.n (L (some (.bool false))) (J 1) .e) (some (.tup [(i 6), (i 0)])) wd1701) (some (.bool true)) wd1702
def wd1704 : T AV := .n (.n (.n wd1698 (some (.slc (some (0, 0)) 1 1 3 .exact)) wd1699) (J 11) wd1700) (J 0) wd1703
def wd1705 : T AV := .n (.n (L (some (.bool false))) (J 0) .e) (some (.agg [(i 4), (i 3), (.slc (some (0, 0)) 1 1 3 .exact), (.slc (some (1, 0)) 1 1 3 .exact)])) (.n (L (some (.bool false))) (some (.agg [(i 0), (i 0), (.str [69, 69, 87, 87])])) .e)
def wd1706 : T AV := .n wd1705 (J 19) (.n (.n (L (some (.bool false))) (some (.tup [(i 0), (i 11)])) .e) (J 0) (L (J 2)))
def wd1707 : T AV := .n (.n (L (some (.bool false))) (some (.slc (some (1912, 0)) 2 2 3 .exact)) .e) (some (.tup [(i 6), (i 0)])) (L (some (.agg [(i 1), (i 1), (.str [69, 69, 78, 78, 87, 83, 87, 83])])))
def wd1708 : T AV := .n (.n (L (some (.bool false))) (J 0) .e) (some (.agg [(i 4), (i 3), (.slc (some (3, 0)) 2 2 3 .exact), (.slc none 0 0 0 .exact)])) (L (some (.bool false)))
def wd1709 : T AV := .n wd1697 (some (.ptr (some (6, 0)))) (.n wd1704 (J 19) (.n wd1706 (J 0) (.n wd1707 (J 3) wd1708)))
def wd1710 : T AV := .n (.n (.n wd1671 (J 6) wd1677) (some (.ptr (some (5, 0)))) wd1688) (some (.bool false)) wd1709
set_option maxHeartbeats 0 in
theorem ws16 : (itO ft oraNone 19983).exec (a18.body.snd.snd.snd.snd.snd.snd.snd.snd.snd.snd.snd.snd.snd.snd.snd.snd.fst) (.n wd1659 (some (.bool false)) wd1665) ⟨(.n (.n wd1580 (I [6]) wd1597) (I [5]) wd1639), 3429, 0⟩ = some (.normal, wd1710, ⟨(.n (.n wd1580 (I [6]) wd1597) (I [5]) wd1639), 3429, 0⟩) := by kernel_rfl
def wd1711 : T AV := .n (.n wd1666 (J 0) (.n (L (some (.bool false))) (J 11) .e)) (J 2) (.n wd1667 (J 6) (.n (L (J 8)) (some (.tup [(i 3), (.bool true), (i 0)])) .e))
def wd1712 : T AV := .n wd1711 (J 8) (.n wd1669 (some (.slc (some (3423, 0)) 3 3 3 .tail)) (.n wd1670 (J 19) (L (J 3))))
def wd1713 : T AV := .n (.n (L (some (.bool false))) (J 0) .e) (some (.agg [(i 4), (i 3), (.slc (some (0, 0)) 1 1 3 .exact), (.slc (some (1, 0)) 1 1 3 .exact)])) (.n (L (some (.tup [(i 8), (i 0)]))) (some (.slc (some (3423, 0)) 3 3 3 .tail)) .e)
def wd1714 : T AV := .n (.n wd1673 (some (.slc (some (3401, 0)) 8 8 81 .tail)) wd1674) (some (.slc (some (1911, 0)) 3 3 3 .tail)) (.n wd1713 (J 0) (.n wd1676 (J 8) (L (some (.bool false)))))
def wd1715 : T AV := .n (.n (.n (L (some (.bool false))) (J 0) .e) (J 0) wd1672) (J 0) (.n wd1678 (some (.tup [(i 0), (i 19)])) (L (some (.bool true))))
def wd1716 : T AV := .n (L (some (.slc (some (3401, 0)) 8 8 81 .tail))) (some (.tup [(i 3), (.bool true), (i 0)])) .e
def wd1717 : T AV := .n wd1685 (J 1) (.n (.n wd1670 (some (.slc (some (7, 0)) 2 2 3 .exact)) wd1716) (J 2) wd1687)
def wd1718 : T AV := .n (.n wd1715 (some (.slc (some (780, 0)) 2 2 3 .exact)) (.n wd1681 (J 3) wd1683)) (J 0) wd1717
def wd1719 : T AV := .n (.n (L (J 0)) (some (.slc (some (780, 0)) 2 2 3 .exact)) .e) (J 8) (.n (L (J 0)) (some (.tup [(.slc (some (3401, 0)) 8 8 81 .tail), (i 0)])) .e)
def wd1720 : T AV := .n (.n (L (J 0)) (some (.slc (some (1913, 0)) 2 2 3 .exact)) .e) (J 0) (.n (L (J 0)) (J 3) .e)
def wd1721 : T AV := .n (.n (L (J 0)) (some (.tup [(i 2), (i 0)])) .e) (some (.slc (some (7, 0)) 2 2 3 .exact)) (.n wd3 (J 0) .e)
def wd1722 : T AV := .n wd1721 (J 6) (.n (.n (L (J 19)) (some (.slc (some (1919, 0)) 2 2 81 .exact)) .e) (J 0) (L (J 19)))
def wd1723 : T AV := .n (.n (.n wd1719 (J 0) wd1720) (J 0) (.n wd1691 (J 0) wd1692)) (J 0) (.n (.n wd1693 (J 0) wd1694) (J 0) wd1722)
def wd1724 : T AV := .n (L (some (.tup [(i 8), (i 0)]))) (some (.agg [(i 1), (i 1), (.str [69, 69, 78, 78, 87, 83, 87, 83])])) .e
def wd1725 : T AV := .n (.n (L (some (.bool false))) (some (.slc (some (1912, 0)) 2 2 3 .exact)) .e) (some (.tup [(i 6), (i 0)])) wd1724
def wd1726 : T AV := .n wd1723 (some (.ptr (some (6, 0)))) (.n wd1704 (J 19) (.n wd1706 (J 0) (.n wd1725 (J 3) wd1708)))
def wd1727 : T AV := .n (.n (.n wd1712 (J 6) wd1714) (some (.ptr (some (5, 0)))) wd1718) (some (.bool false)) wd1726
set_option maxHeartbeats 0 in
theorem ws17 : (itO ft oraNone 19982).exec (a18.body.snd.snd.snd.snd.snd.snd.snd.snd.snd.snd.snd.snd.snd.snd.snd.snd.snd.fst) wd1710 ⟨(.n (.n wd1580 (I [6]) wd1597) (I [5]) wd1639), 3429, 0⟩ = some (.normal, wd1727, ⟨(.n (.n wd1580 (I [6]) wd1597) (I [5]) wd1639), 3429, 0⟩) := by kernel_rfl
def wd1728 : T AV := .n (L (some (.bool false))) (some (.tup [(.slc (some (780, 0)) 2 2 3 .exact), (i 0)])) (L (some (.slc (some (3430, 0)) 3 3 3 .exact)))
def wd1729 : T AV := .n (L (some (.bool false))) (some (.agg [(.slc (some (1912, 0)) 2 2 3 .exact), (i (-1))])) (L (some (.bool true)))
def wd1730 : T AV := .n (.n wd1728 (J 0) (.n (L (some (.bool false))) (J 11) (L (some (.bool true))))) (J 2) (.n wd1729 (J 6) (.n (L (J 8)) (some (.tup [(i 3), (.bool true), (i 0)])) .e))
def wd1731 : T AV := .n (.n (L (some (.bool false))) (some (.tup [(i 1), (i 0)])) (L (some (.bool true)))) (some (.slc (some (3, 0)) 2 2 3 .exact)) (.n (L (some (.bool false))) (J 19) (L (some (.bool true))))
def wd1732 : T AV := .n (L (some (.bool false))) (some (.agg [(i 4), (i 3), (.slc (some (0, 0)) 1 1 3 .exact), (.slc (some (1, 0)) 1 1 3 .exact)])) (L (some (.bool true)))
def wd1733 : T AV := .n wd1731 (some (.slc (some (3423, 0)) 3 3 3 .tail)) (.n wd1732 (J 19) (.n (L (some (.bool true))) (J 3) .e))
def wd1734 : T AV := .n (L (some (.bool false))) (some (.agg [(i 4), (i 3), (.slc (some (3, 0)) 2 2 3 .exact), (.slc none 0 0 0 .exact)])) (L (some (.bool true)))
def wd1735 : T AV := .n (L (some (.bool false))) (some (.slc (some (3401, 0)) 8 8 81 .tail)) (L (some (.bool true)))
def wd1736 : T AV := .n (.n (L (some (.bool false))) (some (.tup [(i 2), (i 0)])) (L (some (.bool true)))) (some (.slc (some (8, 0)) 2 2 3 .exact)) (.n (L (some (.bool true))) (some (.tup [(i 6), (i 2), (i 3), (i 0)])) .e)
def wd1737 : T AV := .n (.n wd1734 (some (.slc (some (0, 0)) 1 1 3 .exact)) wd1735) (some (.slc (some (3401, 0)) 8 8 81 .tail)) wd1736
def wd1738 : T AV := .n (L (some (.tup [(i 8), (i 0)]))) (some (.slc (some (3423, 0)) 3 3 3 .tail)) (L (some (.bool true)))
def wd1739 : T AV := .n (.n (L (some (.bool false))) (J 0) (L (some (.bool true)))) (some (.agg [(i 4), (i 3), (.slc (some (0, 0)) 1 1 3 .exact), (.slc (some (1, 0)) 1 1 3 .exact)])) wd1738
def wd1740 : T AV := .n (L (some (.bool false))) (some (.agg [(.slc (some (1918, 0)) 2 2 3 .exact), (i (-1))])) (L (some (.bool true)))
def wd1741 : T AV := .n wd1737 (some (.slc (some (1911, 0)) 3 3 3 .tail)) (.n wd1739 (J 0) (.n wd1740 (J 8) (.n (L (some (.bool true))) (some (.bool false)) .e)))
def wd1742 : T AV := .n (L (some (.bool false))) (some (.agg [(i 4), (i 3), (.slc (some (3, 0)) 2 2 3 .exact), (.slc none 0 0 0 .exact)])) (L (J 6))
def wd1743 : T AV := .n (L (some (.bool false))) (some (.agg [(.slc (some (1913, 0)) 2 2 3 .exact), (i 2)])) (L (some (.bool true)))
def wd1744 : T AV := .n (.n (.n (L (some (.bool false))) (J 0) (L (some (.bool true)))) (J 0) wd1742) (J 0) (.n wd1743 (some (.tup [(i 0), (i 19)])) (.n (L (J 6)) (some (.bool true)) .e))
def wd1745 : T AV := .n (L (some (.bool false))) (some (.agg [(i 1), (i 1), (.str [69, 69, 78, 78, 87, 83, 87, 83])])) (L (J 3))
def wd1746 : T AV := .n (.n (L (some (.bool false))) (some (.tup [(i 1), (i 0)])) (L (some (.bool true)))) (some (.agg [(i 4), (i 3), (.slc (some (3, 0)) 2 2 3 .exact), (.slc none 0 0 0 .exact)])) wd1745
def wd1747 : T AV := .n (L (some (.bool false))) (some (.agg [(.slc (some (1917, 0)) 2 2 3 .exact), (i (-1))])) (L (some (.bool true)))
def wd1748 : T AV := .n wd1747 (some (.agg [(i 4), (i 3), (.slc (some (3, 0)) 2 2 3 .exact), (.slc none 0 0 0 .exact)])) (.n (L (some (.slc (some (3429, 0)) 2 2 3 .exact))) (J 0) .e)
def wd1749 : T AV := .n (L (some (.bool false))) (some (.slc (some (1911, 0)) 3 3 3 .tail)) (L (some (.bool true)))
def wd1750 : T AV := .n (L (some (.bool false))) (some (.agg [(i 1), (i 1), (.str [69, 69, 78, 78, 87, 83, 87, 83])])) (L (J 2))
def wd1751 : T AV := .n (.n (L (some (.bool false))) (J 0) (L (some (.slc (some (3431, 0)) 3 3 3 .exact)))) (some (.tup [(i 0), (i 19)])) (.n (L (some (.bool true))) (J 6) .e)
def wd1752 : T AV := .n (.n wd1749 (some (.slc (some (1, 0)) 1 1 3 .exact)) wd1750) (some (.ptr (some (3402, 0)))) wd1751
def wd1753 : T AV := .n (.n (L (some (.bool false))) (some (.tup [(i 0), (i 11)])) (L (some (.bool true)))) (some (.tup [(.slc (some (780, 0)) 2 2 3 .exact), (i 0)])) (.n (L (some (.bool true))) (some (.bool false)) .e)
def wd1754 : T AV := .n wd1752 (J 1) (.n (.n wd1732 (some (.slc (some (7, 0)) 2 2 3 .exact)) wd1716) (J 2) wd1753)
def wd1755 : T AV := .n (.n wd1744 (some (.slc (some (780, 0)) 2 2 3 .exact)) (.n wd1746 (J 3) wd1748)) (J 0) wd1754
def wd1756 : T AV := .n (L (J 0)) (some (.slc (some (780, 0)) 2 2 3 .exact)) (L (some (.slc (some (3430, 0)) 3 3 3 .exact)))
def wd1757 : T AV := .n (L (J 0)) (some (.tup [(.slc (some (3401, 0)) 8 8 81 .tail), (i 0)])) (L (some (.bool true)))
def wd1758 : T AV := .n (.n (L (J 0)) (some (.slc (some (1913, 0)) 2 2 3 .exact)) (L (J 8))) (J 0) (.n (L (J 0)) (J 3) .e)
def wd1759 : T AV := .n (L (J 0)) (some (.agg [(i 4), (i 3), (.slc (some (3, 0)) 2 2 3 .exact), (.slc none 0 0 0 .exact)])) (L (J 2))
def wd1760 : T AV := .n (L (J 0)) (some (.tup [(.slc (some (3423, 0)) 3 3 3 .tail), (i 0)])) (L (some (.bool true)))
def wd1761 : T AV := .n (.n (L (J 0)) (some (.slc (some (1917, 0)) 2 2 3 .exact)) (L (some (.bool true)))) (some (.tup [(i 8), (i 0)])) (.n (L (some (.slc (some (780, 0)) 2 2 3 .exact))) (J 0) .e)
def wd1762 : T AV := .n (.n (.n wd1756 (J 8) wd1757) (J 0) wd1758) (J 0) (.n (.n wd1759 (some (.slc (some (3, 0)) 2 2 3 .exact)) wd1760) (J 0) wd1761)
def wd1763 : T AV := .n (.n (L (J 0)) (some (.tup [(.slc (some (1911, 0)) 3 3 3 .tail), (i 0)])) (L (J 1))) (some (.slc (some (1, 0)) 1 1 3 .exact)) (.n (L (J 0)) (J 0) (L (some (.bool true))))
def wd1764 : T AV := .n (.n (L (J 11)) (J 2) (L (some (.slc (some (3423, 0)) 3 3 3 .tail)))) (some (.slc (some (8, 0)) 2 2 3 .exact)) (.n (L (J 8)) (some (.tup [(i 6), (i 2), (i 3), (i 0)])) .e)
def wd1765 : T AV := .n (.n (L (J 0)) (some (.tup [(i 2), (i 0)])) (L (J 0))) (some (.slc (some (7, 0)) 2 2 3 .exact)) (.n wd3 (J 0) .e)
def wd1766 : T AV := .n (.n (L (J 19)) (some (.slc (some (1919, 0)) 2 2 81 .exact)) (L (some (.bool true)))) (J 0) (.n (L (some (.bool true))) (J 19) .e)
def wd1767 : T AV := .n (L (some (.bool false))) (some (.tup [(.slc (some (1911, 0)) 3 3 3 .tail), (i 0)])) (L (some (.bool true)))
def wd1768 : T AV := .n (L (some (.bool false))) (some (.tup [(.slc (some (3401, 0)) 8 8 81 .tail), (i 0)])) (L (some (.bool true)))
def wd1769 : T AV := .n (L (some (.bool false))) (some (.slc (some (1914, 0)) 2 2 81 .exact)) (L (some (.bool true)))
def wd1770 : T AV := .n wd1769 (some (.agg [(i 4), (i 3), (.slc (some (0, 0)) 1 1 3 .exact), (.slc (some (1, 0)) 1 1 3 .exact)])) (.n (L (some (.bool true))) (J 0) .e)
def wd1771 : T AV := .n (L (some (.bool false))) (some (.tup [(.slc (some (3423, 0)) 3 3 3 .tail), (i 0)])) (L (some (.bool true)))
def wd1772 : T AV := .n (.n (L (some (.bool false))) (J 1) (L (some (.bool true)))) (some (.tup [(i 6), (i 0)])) wd1771
def wd1773 : T AV := .n (.n (L (some (.bool false))) (some (.slc (some (1918, 0)) 2 2 3 .exact)) (L (J 3))) (some (.tup [(i 8), (i 0)])) (.n (L (some (.slc (some (3429, 0)) 2 2 3 .exact))) (some (.bool false)) .e)
def wd1774 : T AV := .n (.n (.n wd1767 (some (.slc (some (0, 0)) 1 1 3 .exact)) wd1768) (J 11) wd1770) (J 0) (.n wd1772 (some (.bool true)) wd1773)
def wd1775 : T AV := .n (L (some (.bool false))) (some (.agg [(i 0), (i 0), (.str [69, 69, 87, 87])])) (L (some (.bool true)))
def wd1776 : T AV := .n (.n (L (some (.bool false))) (J 0) (L (some (.bool true)))) (some (.agg [(i 4), (i 3), (.slc (some (0, 0)) 1 1 3 .exact), (.slc (some (1, 0)) 1 1 3 .exact)])) wd1775
def wd1777 : T AV := .n (L (some (.bool false))) (some (.tup [(i 0), (i 11)])) (L (some (.slc (some (3431, 0)) 3 3 3 .exact)))
def wd1778 : T AV := .n (L (some (.bool false))) (some (.slc (some (1912, 0)) 2 2 3 .exact)) (L (some (.bool true)))
def wd1779 : T AV := .n (.n (L (some (.bool false))) (J 0) (L (some (.bool true)))) (some (.agg [(i 4), (i 3), (.slc (some (3, 0)) 2 2 3 .exact), (.slc none 0 0 0 .exact)])) (.n (L (some (.slc (some (1911, 0)) 3 3 3 .tail))) (some (.bool false)) .e)
def wd1780 : T AV := .n (.n wd1776 (J 19) (.n wd1777 (J 0) (.n (L (some (.bool true))) (J 2) .e))) (J 0) (.n (.n wd1778 (some (.tup [(i 6), (i 0)])) wd1724) (J 3) wd1779)
def wd1781 : T AV := .n (.n wd1762 (J 0) (.n (.n wd1763 (J 0) wd1764) (J 0) (.n wd1765 (J 6) wd1766))) (some (.ptr (some (6, 0)))) (.n wd1774 (J 19) wd1780)
def wd1782 : T AV := .n (.n (.n (.n wd1730 (J 8) wd1733) (J 6) wd1741) (some (.ptr (some (5, 0)))) wd1755) (some (.bool true)) wd1781
def wd1783 : T AObj := .n (.n (L (I [4])) (I [7]) (L (I [9,10,18]))) none (.n (L (I [2,1,1,2,0,1,1,0])) none .e)
def wd1784 : T AObj := .n (.n (.n .e (I [6]) (L (I [0,1]))) (I [4,1,3,2,2,1,3,0]) (.n (L (I [1])) (I [2]) .e)) (I [2]) wd1783
def wd1785 : T AObj := .n (.n (.n wd789 (C [(.ptr (some (13, 0)))]) wd790) none wd792) (I [11]) (.n wd1784 (I [0,2]) wd795)
def wd1786 : T AObj := .n (.n wd1566 (I [4,5]) (.n (.n wd788 (I [0]) wd1785) (I [5]) (.n wd1568 none wd812))) (I [5,7]) wd1579
def wd1787 : T AObj := .n (.n (L (I [4,0,3,1,2,0,3,-1])) (I [1]) (L (I [5,7]))) (I [4,1]) (.n (L (I [5])) (I [4,2]) .e)
def wd1788 : T AObj := .n (.n (.n (L (I [-1,1])) (I [2]) (L (I [1]))) (I [7]) (.n (L (I [2,1])) (I [1,2]) .e)) (I [1,2]) wd1787
def wd1789 : T AObj := .n wd1788 (I [1]) (.n wd960 (I [0]) (.n (.n (L (I [3])) none .e) (I [4]) (.n (L (I [3])) (I [3,0]) .e)))
def wd1790 : T AObj := .n (.n (.n wd490 none (.n wd957 (I [1,2]) (.n (L (I [4])) (I [3]) .e))) (I [1]) wd958) (I [3]) wd1789
def wd1791 : T AObj := .n (.n wd956 none wd1790) (C [(.slc (some (47, 1)) 4 4 3 .tail)]) (.n (.n wd966 (I [4]) wd1590) (I [4,1]) wd979)
def wd1792 : T AObj := .n wd1791 (C [(i 4), (i 3), (.slc (some (3, 0)) 2 2 3 .exact), (.slc none 0 0 0 .exact), (.map (some 12)), (i 8)]) (.n (.n wd1593 (I [0]) wd997) (I [2]) wd1595)
def wd1793 : T AObj := .n wd1588 (C [(i 4), (i 3), (.slc (some (0, 0)) 1 1 3 .exact), (.slc (some (1, 0)) 1 1 3 .exact)]) wd1792
def wd1794 : T AObj := .n (.n (.n (L (I [-1])) (I [1]) (L (I [2]))) none (.n (L (I [2])) (I [1]) .e)) (I [1]) (.n (.n (L (I [4,0])) (I [0]) (L (I [5,6,7]))) (I [4]) (.n (L none) (I [4]) .e))
def wd1795 : T AObj := .n (.n wd1226 (I [0,1]) (.n (.n wd1228 (I [6]) wd1230) (I [2]) (.n wd1794 (I [1]) wd1232))) (C [(.fn 100 [(.ptr (some (13, 0)))] [])]) wd1630
def wd1796 : T AObj := .n wd1795 (C [(.slc (some (17, 0)) 12 12 104 .exact)]) (.n (.n wd1634 (I [1]) wd1268) (I [1]) wd1636)
def wd1797 : T AObj := .n wd1628 (C [(i 4), (i 3), (.slc (some (3, 0)) 2 2 3 .exact), (.slc none 0 0 0 .exact)]) wd1796
def wd1798 : T AObj := .n wd1619 (C [(i 4), (i 3), (.slc (some (0, 0)) 1 1 3 .exact), (.slc (some (1, 0)) 1 1 3 .exact)]) wd1797
set_option maxHeartbeats 0 in
theorem ws18 : (itO ft oraNone 19981).exec (a18.body.snd.snd.snd.snd.snd.snd.snd.snd.snd.snd.snd.snd.snd.snd.snd.snd.snd.snd.fst) wd1727 ⟨(.n (.n wd1580 (I [6]) wd1597) (I [5]) wd1639), 3429, 0⟩ = some (.normal, wd1782, ⟨(.n (.n wd1786 (I [6]) wd1793) (I [5]) wd1798), 3432, 0⟩) := by kernel_rfl
set_option maxHeartbeats 0 in
theorem ws19 : (itO ft oraNone 19981).exec (a18.body.snd.snd.snd.snd.snd.snd.snd.snd.snd.snd.snd.snd.snd.snd.snd.snd.snd.snd.snd) wd1782 ⟨(.n (.n wd1786 (I [6]) wd1793) (I [5]) wd1798), 3432, 0⟩ = some (.ret, wd1782, ⟨(.n (.n wd1786 (I [6]) wd1793) (I [5]) wd1798), 3432, 0⟩) := by kernel_rfl
theorem wall : (itO ft oraNone 20000).exec a18.body .e ⟨.e, 0, 0⟩ = some (.ret, wd1782, ⟨(.n (.n wd1786 (I [6]) wd1793) (I [5]) wd1798), 3432, 0⟩) :=
  exec_seq rfl ws0 (exec_seq rfl ws1 (exec_seq rfl ws2 (exec_seq rfl ws3 (exec_seq rfl ws4 (exec_seq rfl ws5 (exec_seq rfl ws6 (exec_seq rfl ws7 (exec_seq rfl ws8 (exec_seq rfl ws9 (exec_seq rfl ws10 (exec_seq rfl ws11 (exec_seq rfl ws12 (exec_seq rfl ws13 (exec_seq rfl ws14 (exec_seq rfl ws15 (exec_seq rfl ws16 (exec_seq rfl ws17 (exec_seq rfl ws18 (ws19)))))))))))))))))))
theorem wval : callF (itO ft oraNone 20000) a18 [] ⟨.e, 0, 0⟩ = some (.bool true, ⟨.e, 0, 0⟩) :=
  callF_pure rfl rfl wall (fun j e => by cases e) (by kernel_rfl) rfl
theorem wget : ft.get 18 = some a18 := by kernel_rfl
/-- The closed part of each law, answered ahead. -/
def oraW : Ora := oraOf 18 true
theorem oraW_ok : OraOK Try.prog oraW := oraOf_ok mixed table oraNone_ok wget wval rfl
end Go.AM
