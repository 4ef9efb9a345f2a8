/- The run of function 10, statement by statement: reckoned by the kernel. Printed by closed2.py. -/
import Derived.Test.YtidlikbpbkgbaaaTop
set_option linter.all false
set_option linter.unusedVariables false
set_option linter.unusedSimpArgs false
set_option linter.unusedSectionVars false
namespace Go.AM
open Go Go.Proofs Sh
set_option maxRecDepth 1000000
set_option maxHeartbeats 0 in
theorem ws0 : (itO ft oraNone 19999).exec (a10.body.fst) .e ⟨.e, 0, 0⟩ = some (.normal, (L (some (.bool false))), ⟨.e, 0, 0⟩) := by kernel_rfl
def wd0 : T AV := .n (.n .e none (.n .e none (L (some (.agg [(i 10), (.slc (some (4, 0)) 3 3 31 .exact)]))))) (some (.ptr (some (10, 0)))) .e
def wd1 : T AV := .n (.n .e none (.n .e none (L (some (.agg [(i 10), (.slc (some (9, 0)) 3 3 31 .exact)]))))) (some (.ptr (some (11, 0)))) .e
def wd2 : T AObj := .n (L (I [2,5,2,1,10,2,8,2])) (I [-1,4,1,2,9,1,2,1]) (L (C [(i 10), (.slc (some (9, 0)) 3 3 31 .exact)]))
def wd3 : T AObj := .n (L (I [2,3,1,1,6,1,10,1,2,5,2,1,10,2,8,2,-1,4,1,2,4,1,2,1])) (C [(i 10), (.slc (some (9, 0)) 3 3 31 .exact)]) .e
def wd4 : T AObj := .n (L (I [-1,4,1,2,4,1,2,1])) (I [2,3,1,1,6,1,10,1,2,5,2,1,10,2,8,2,-1,4,1,2,9,1,2,1]) .e
def wd5 : T AObj := .n wd4 (I [2,5,2,1,10,2,8,2]) (.n (L (C [(i 10), (.slc (some (4, 0)) 3 3 31 .exact)])) (I [2,3,1,1,6,1,10,1]) .e)
def wd6 : T AObj := .n (.n wd2 (I [2,3,1,1,6,1,10,1]) wd3) (C [(i 10), (.slc (some (4, 0)) 3 3 31 .exact)]) wd5
set_option maxHeartbeats 0 in
theorem ws1 : (itO ft oraNone 19998).exec (a10.body.snd.fst) (L (some (.bool false))) ⟨.e, 0, 0⟩ = some (.normal, (.n wd0 (some (.bool false)) wd1), ⟨wd6, 12, 0⟩) := by kernel_rfl
def wd7 : T AV := .n (.n (.n (L (some (.tup [(.slc (some (168, 0)) 3 3 40 .tail), (i 0)]))) none .e) none .e) (some (.slc (some (168, 0)) 3 3 40 .tail)) (.n .e none (L (some (.agg [(i 10), (.slc (some (4, 0)) 3 3 31 .exact)]))))
def wd8 : T AV := .n (.n (.n (L (J 0)) none .e) none .e) none (.n .e none (L (some (.tup [(.slc (some (168, 0)) 3 3 40 .tail), (i 0)]))))
def wd9 : T AV := .n (.n (.n (L (some (.slc (some (168, 0)) 3 3 40 .tail))) none .e) none .e) (J 0) (.n .e none (L (some (.agg [(i 10), (.slc (some (9, 0)) 3 3 31 .exact)]))))
def wd10 : T AV := .n wd9 (some (.ptr (some (11, 0)))) (.n .e none (.n .e none (L (some (.agg [(i 10), (.slc (some (4, 0)) 3 3 31 .exact)])))))
def wd11 : T AObj := .n (.n (L (I [2,5,2,1,10,2,8,2])) (I [2,5]) .e) (I [10,0,2,0,0,0,0,0]) (.n (L (I [0,0,0,4,8,11,15,17,20,20,20])) none .e)
def wd12 : T AObj := .n wd11 (I [0,0,0,0,0,0,0,0]) (.n (.n (L (I [2,9])) (I [-1,5]) .e) (I [2,3]) (L (I [10,8,20,0,0,0,0,0])))
def wd13 : T AObj := .n (.n (L none) (I [10,8,11,0,0,0,0,0]) .e) (I [2,1]) (.n (L (C [(.slc (some (166, 0)) 10 10 2 .exact)])) (I [1,6]) .e)
def wd14 : T AObj := .n wd12 (I [2,5,2,1,10,2,8,2]) (.n wd13 none (.n (.n (L (I [0,10])) (I [2,6]) .e) (I [0]) (L (I [-1,8]))))
def wd15 : T AObj := .n (.n (L (I [-1,9])) (I [10,8,8,0,0,0,0,0]) .e) (I [2,5,2,1,10,2,8,2]) (.n (L (I [0,0,5,0,3,0,0,0,0,0])) (I [2,3,1,1,6,1,10,1]) .e)
def wd16 : T AObj := .n wd15 (C [(.slc (some (18, 0)) 10 10 2 .exact)]) (.n (.n (L (I [20])) none .e) (I [2,2]) (L (I [1,7])))
def wd17 : T AObj := .n (.n (L (I [2,5,2,1,10,2,8,2])) (I [2,5,2,1,10,2,8,2]) .e) none (L (I [10,8,17,0,0,0,0,0]))
def wd18 : T AObj := .n wd17 (some (.map [((.agg [(i (-1)), (i 3)]), (i 4), 5), ((.agg [(i (-1)), (i 4)]), (i 4), 8), ((.agg [(i (-1)), (i 5)]), (i 3), 9), ((.agg [(i (-1)), (i 6)]), (i 4), 12), ((.agg [(i (-1)), (i 7)]), (i 2), 13), ((.agg [(i (-1)), (i 8)]), (i 3), 15), ((.agg [(i (-1)), (i 9)]), (i 0), 16), ((.agg [(i 2), (i 11)]), (i 0), 17), ((.agg [(i (-1)), (i 10)]), (i 0), 18)] 19)) (.n (.n (L (I [2,10])) (I [-1,4,1,2,9,1,2,1]) .e) (I [0,3]) (L none))
def wd19 : T AObj := .n wd14 (I [-1,4,1,2,9,1,2,1]) (.n wd16 (C [(i 10), (.slc (some (9, 0)) 3 3 31 .exact)]) wd18)
def wd20 : T AObj := .n (.n (L (I [-1,4,1,2,9,1,2,1])) (I [2,3]) .e) (I [0,1]) (.n (L (C [(.slc (some (160, 0)) 10 10 2 .exact)])) none .e)
def wd21 : T AObj := .n wd20 (C [(i 10), (.slc (some (4, 0)) 3 3 31 .exact), (.slc (some (26, 0)) 3 3 40 .tail), (.slc (some (157, 0)) 11 11 64 .tail), (.slc (some (159, 0)) 11 11 2 .tail), (i 10), (i 8), (i 20), (i 0), (i 0), (i 0), (i 0), (i 0)]) (.n (.n (L (I [10,8,20,0,0,0,0,0])) none .e) (I [1,2]) (L (I [0,7])))
def wd22 : T AObj := .n (.n (.n (L (I [2,3,1,1,6,1,10,1])) (I [0,4]) .e) none (L (I [2,6]))) (C [(.slc (some (24, 0)) 10 10 2 .exact)]) (.n (.n (L (I [1,10])) (I [1,5]) .e) (I [10,8,8,0,0,0,0,0]) (L none))
def wd23 : T AObj := .n (L (C [(.slc (some (160, 0)) 10 10 2 .exact), (.slc (some (163, 0)) 10 10 2 .exact)])) (I [2,7]) .e
def wd24 : T AObj := .n (.n (L (I [10,8,20,0,0,0,0,0])) (I [2,3,1,1,6,1,10,1]) .e) (I [10,8,5,0,0,0,0,0]) (L (I [-1,4,1,2,9,1,2,1]))
def wd25 : T AObj := .n .e (I [0,0,0,0,0,0,0,0,10,0,2,0,0,0,0,0,10,8,5,0,0,0,0,0,10,8,8,0,0,0,0,0,10,8,11,0,0,0,0,0,10,8,17,0,0,0,0,0,10,8,17,0,0,0,0,0,10,8,20,0,0,0,0,0,10,8,20,0,0,0,0,0,10,8,20,0,0,0,0,0,10,8,20,0,0,0,0,0]) .e
def wd26 : T AObj := .n (.n (.n (L (I [2,11])) (I [-1,4,1,2,9,1,2,1]) .e) (I [2,3,1,1,6,1,10,1]) (L (I [15]))) (I [2,5,2,1,10,2,8,2]) (.n (.n wd25 (I [-1,6]) .e) (I [2,5,2,1,10,2,8,2]) (L (I [2,3,1,1,6,1,10,1])))
def wd27 : T AObj := .n (.n (.n (.n (L none) (I [4]) .e) (I [2,3]) wd23) (I [0,0,5,0,3,0,0,0,0,0]) wd24) (C [(i 10), (.slc (some (4, 0)) 3 3 31 .exact)]) wd26
def wd28 : T AObj := .n (.n wd21 (I [2,3,1,1,6,1,10,1,2,5,2,1,10,2,8,2,-1,4,1,2,4,1,2,1]) wd22) (C [(i 10), (.slc (some (9, 0)) 3 3 31 .exact)]) wd27
def wd29 : T AObj := .n (.n (L (I [1,8])) (I [-1,4,1,2,9,1,2,1]) .e) (I [2,3,1,1,6,1,10,1]) (.n (L (I [3,3,3,1,0,0,0,0,0,0])) (I [11]) .e)
def wd30 : T AObj := .n (.n (L (I [-1,10])) (I [10,8,11,0,0,0,0,0]) .e) (I [2,5,2,1,10,2,8,2]) (L (I [2,3,1,1,6,1,10,1]))
def wd31 : T AObj := .n .e (C [(.slc (some (160, 0)) 10 10 2 .exact), (.slc (some (163, 0)) 10 10 2 .exact), (.slc (some (166, 0)) 10 10 2 .exact)]) .e
def wd32 : T AObj := .n (.n (L (I [10,8,20,0,0,0,0,0])) (I [2,3,1,1,6,1,10,1]) .e) (I [10,0,2,0,0,0,0,0]) (.n wd31 (I [-1,4,1,2,9,1,2,1]) .e)
def wd33 : T AObj := .n (.n (L (I [2,5,2,1,10,2,8,2])) (I [2,5,2,1,10,2,8,2]) .e) none (L (I [10,8,20,0,0,0,0,0]))
def wd34 : T AObj := .n (.n wd29 (I [0]) wd30) (I [-1,4,1,2,4,1,2,1]) (.n wd32 (I [0,4,4,3,4,2,3,0,0,0]) wd33)
def wd35 : T AObj := .n (.n (L (I [10,8,20,0,0,0,0,0])) none .e) (I [1,1]) (.n (L (C [(.slc (some (163, 0)) 10 10 2 .exact)])) (I [0,6]) .e)
def wd36 : T AObj := .n (.n (.n (L (I [1,9])) (I [1,4]) .e) (I [10,8,5,0,0,0,0,0]) (L none)) (I [2,3,1,1,6,1,10,1]) (.n (.n (L (I [10,8,20,0,0,0,0,0])) (I [2,5]) .e) (I [2,4]) (L (I [10,8,20,0,0,0,0,0])))
def wd37 : T AObj := .n (.n wd35 none (.n (.n (L none) (I [10,8,17,0,0,0,0,0]) .e) (I [-1,3]) (L (I [2,9])))) (C [(i 10), (.slc (some (4, 0)) 3 3 31 .exact)]) wd36
def wd38 : T AObj := .n (.n (L (I [2,8])) (I [-1,4]) .e) (I [2,2]) (.n (L (C [(.slc (some (160, 0)) 10 10 2 .exact)])) (I [10,8,17,0,0,0,0,0]) .e)
def wd39 : T AObj := .n wd38 (I [3,3,3,1,0,0,0,0,0,0]) (.n (.n (L none) (I [8]) .e) (I [-1,4,1,2,9,1,2,1]) (L (I [2,5,2,1,10,2,8,2])))
def wd40 : T AObj := .n (.n (.n (L (I [0,9])) (I [2,5]) .e) (I [0]) (L (I [-1,7]))) (C [(.slc (some (18, 0)) 10 10 2 .exact), (.slc (some (21, 0)) 10 10 2 .exact), (.slc (some (24, 0)) 10 10 2 .exact)]) (.n (.n (L (I [-1,4,1,2,9,1,2,1])) (I [2,7]) .e) (I [2,3,1,1,6,1,10,1]) (L (I [17])))
def wd41 : T AObj := .n (.n (L (I [20])) none .e) (I [-1,4,1,2,9,1,2,1]) (.n (L (I [0,4,4,3,4,2,3,0,0,0])) (I [2,5,2,1,10,2,8,2]) .e)
def wd42 : T AObj := .n wd41 (C [(.slc (some (21, 0)) 10 10 2 .exact)]) (.n (.n (L (I [2,3,1,1,6,1,10,1])) (I [0,5]) .e) none (L (I [2,7])))
def wd43 : T AObj := .n (.n (.n (L (I [-1,4,1,2,9,1,2,1])) (I [2,4]) .e) (I [0,2]) (L none)) (I [-1,4,1,2,9,1,2,1]) (.n (.n (L (I [20])) (I [10,8,17,0,0,0,0,0]) .e) (I [1,3]) (L (I [0,8])))
def wd44 : T AObj := .n (.n wd39 (C [(i 10), (.slc (some (4, 0)) 3 3 31 .exact)]) wd40) (I [2,3,1,1,6,1,10,1]) (.n wd42 (C [(i 10), (.slc (some (4, 0)) 3 3 31 .exact)]) wd43)
def wd45 : T AObj := .n (.n wd34 (I [2,3,1,1,6,1,10,1,2,5,2,1,10,2,8,2,-1,4,1,2,9,1,2,1]) wd37) (I [2,5,2,1,10,2,8,2]) wd44
def wd46 : T AObj := .n (.n wd19 (I [2,3,1,1,6,1,10,1]) wd28) (C [(i 10), (.slc (some (4, 0)) 3 3 31 .exact)]) wd45
set_option maxHeartbeats 0 in
theorem ws2 : (itO ft oraNone 19997).exec (a10.body.snd.snd.fst) (.n wd0 (some (.bool false)) wd1) ⟨wd6, 12, 0⟩ = some (.normal, (.n (.n wd7 (some (.ptr (some (10, 0)))) wd8) (some (.bool false)) wd10), ⟨wd46, 169, 0⟩) := by kernel_rfl
def wd47 : T AV := .n (.n (L (some (.tup [(.slc (some (168, 0)) 3 3 40 .tail), (i 0)]))) none .e) none (.n (L (J 0)) none .e)
def wd48 : T AV := .n (.n (L (some (.agg [(i 10), (.slc (some (4, 0)) 3 3 31 .exact)]))) none .e) none (L (some (.agg [(i 10), (.slc (some (4, 0)) 3 3 31 .exact)])))
def wd49 : T AV := .n (.n (L (some (.tup [(i 20), (i 0)]))) none .e) none (L (some (.tup [(.slc (some (168, 0)) 3 3 40 .tail), (i 0)])))
def wd50 : T AV := .n (.n wd47 (some (.slc (some (168, 0)) 3 3 40 .tail)) wd48) (some (.ptr (some (10, 0)))) (.n (.n (.n (L (J 0)) none .e) none .e) (J 20) wd49)
def wd51 : T AV := .n (.n (L (some (.slc (some (172, 0)) 3 3 40 .exact))) none .e) none (L (some (.agg [(i 10), (.slc (some (9, 0)) 3 3 31 .exact)])))
def wd52 : T AV := .n (.n (L (J 20)) none .e) none (L (some (.agg [(i 10), (.slc (some (4, 0)) 3 3 31 .exact)])))
def wd53 : T AV := .n (.n (.n (.n (L (some (.slc (some (168, 0)) 3 3 40 .tail))) none .e) none .e) (J 0) wd51) (some (.ptr (some (11, 0)))) (.n (.n (.n (L (some (.tup [(i 20), (i 0)]))) none .e) none .e) (J 0) wd52)
def wd54 : T AObj := .n (.n (L (I [2,5,2,1,10,2,8,2])) (I [2,5,2,1,10,2,8,2]) .e) none (.n (L (I [0,4,4,3,4,2,3,0,0,0])) (I [10,8,17,0,0,0,0,0]) .e)
def wd55 : T AObj := .n wd54 (some (.map [((.agg [(i (-1)), (i 3)]), (i 4), 5), ((.agg [(i (-1)), (i 4)]), (i 4), 8), ((.agg [(i (-1)), (i 5)]), (i 3), 9), ((.agg [(i (-1)), (i 6)]), (i 4), 12), ((.agg [(i (-1)), (i 7)]), (i 2), 13), ((.agg [(i (-1)), (i 8)]), (i 3), 15), ((.agg [(i (-1)), (i 9)]), (i 0), 16), ((.agg [(i 2), (i 11)]), (i 0), 17), ((.agg [(i (-1)), (i 10)]), (i 0), 18)] 19)) (.n (.n (L (I [2,10])) (I [-1,4,1,2,9,1,2,1]) .e) (I [0,3]) (L none))
def wd56 : T AObj := .n wd14 (I [-1,4,1,2,9,1,2,1]) (.n wd16 (C [(i 10), (.slc (some (9, 0)) 3 3 31 .exact)]) wd55)
def wd57 : T AObj := .n (.n (L (I [2,3,1,1,6,1,10,1])) (I [0,4]) .e) none (.n (L (I [3,3,3,1,0,0,0,0,0,0])) (I [2,6]) .e)
def wd58 : T AObj := .n wd57 (C [(.slc (some (24, 0)) 10 10 2 .exact)]) (.n (.n (L (I [1,10])) (I [1,5]) .e) (I [10,8,8,0,0,0,0,0]) (L none))
def wd59 : T AObj := .n (.n wd21 (I [2,3,1,1,6,1,10,1,2,5,2,1,10,2,8,2,-1,4,1,2,4,1,2,1]) wd58) (C [(i 10), (.slc (some (9, 0)) 3 3 31 .exact)]) wd27
def wd60 : T AObj := .n .e (C [(.slc (some (169, 0)) 10 10 2 .exact), (.slc (some (170, 0)) 10 10 2 .exact), (.slc (some (171, 0)) 10 10 2 .exact)]) .e
def wd61 : T AObj := .n (.n (.n (L (I [1,9])) (I [1,4]) .e) (I [10,8,5,0,0,0,0,0]) (.n wd60 none .e)) (I [2,3,1,1,6,1,10,1]) (.n (.n (L (I [10,8,20,0,0,0,0,0])) (I [2,5]) .e) (I [2,4]) (L (I [10,8,20,0,0,0,0,0])))
def wd62 : T AObj := .n (.n wd35 none (.n (.n (L none) (I [10,8,17,0,0,0,0,0]) .e) (I [-1,3]) (L (I [2,9])))) (C [(i 10), (.slc (some (4, 0)) 3 3 31 .exact)]) wd61
def wd63 : T AObj := .n (.n (L (I [0,9])) (I [2,5]) .e) (I [0]) (.n (L (I [0,0,5,0,3,0,0,0,0,0])) (I [-1,7]) .e)
def wd64 : T AObj := .n wd63 (C [(.slc (some (18, 0)) 10 10 2 .exact), (.slc (some (21, 0)) 10 10 2 .exact), (.slc (some (24, 0)) 10 10 2 .exact)]) (.n (.n (L (I [-1,4,1,2,9,1,2,1])) (I [2,7]) .e) (I [2,3,1,1,6,1,10,1]) (L (I [17])))
def wd65 : T AObj := .n (.n wd39 (C [(i 10), (.slc (some (4, 0)) 3 3 31 .exact)]) wd64) (I [2,3,1,1,6,1,10,1]) (.n wd42 (C [(i 10), (.slc (some (4, 0)) 3 3 31 .exact)]) wd43)
def wd66 : T AObj := .n (.n wd34 (I [2,3,1,1,6,1,10,1,2,5,2,1,10,2,8,2,-1,4,1,2,9,1,2,1]) wd62) (I [2,5,2,1,10,2,8,2]) wd65
def wd67 : T AObj := .n (.n wd56 (I [2,3,1,1,6,1,10,1]) wd59) (C [(i 10), (.slc (some (4, 0)) 3 3 31 .exact)]) wd66
set_option maxHeartbeats 0 in
theorem ws3 : (itO ft oraNone 19996).exec (a10.body.snd.snd.snd.fst) (.n (.n wd7 (some (.ptr (some (10, 0)))) wd8) (some (.bool false)) wd10) ⟨wd46, 169, 0⟩ = some (.normal, (.n wd50 (some (.bool false)) wd53), ⟨wd67, 173, 0⟩) := by kernel_rfl
def wd68 : T AV := .n (.n (L (some (.tup [(.slc (some (168, 0)) 3 3 40 .tail), (i 0)]))) none .e) (J 15) (.n (L (J 0)) none .e)
def wd69 : T AV := .n (.n (L (some (.agg [(i 10), (.slc (some (4, 0)) 3 3 31 .exact)]))) none .e) none (.n (L (J 15)) (some (.agg [(i 10), (.slc (some (4, 0)) 3 3 31 .exact)])) .e)
def wd70 : T AV := .n (.n (L (J 0)) none .e) none (.n (L (some (.agg [(i 10), (.slc (some (4, 0)) 3 3 31 .exact)]))) none .e)
def wd71 : T AV := .n (.n wd68 (some (.slc (some (168, 0)) 3 3 40 .tail)) wd69) (some (.ptr (some (10, 0)))) (.n wd70 (J 20) wd49)
def wd72 : T AV := .n (.n (L (some (.slc (some (168, 0)) 3 3 40 .tail))) none .e) (J 0) (.n (L (some (.tup [(i 15), (i 0)]))) none .e)
def wd73 : T AV := .n (.n (L (some (.slc (some (172, 0)) 3 3 40 .exact))) none .e) none (.n (L (J 0)) (some (.agg [(i 10), (.slc (some (9, 0)) 3 3 31 .exact)])) .e)
def wd74 : T AV := .n (.n (L (some (.tup [(i 20), (i 0)]))) none .e) none (.n (L (some (.tup [(i 15), (i 0)]))) none .e)
def wd75 : T AV := .n wd71 (some (.bool false)) (.n (.n wd72 (J 0) wd73) (some (.ptr (some (11, 0)))) (.n wd74 (J 0) wd52))
set_option maxHeartbeats 0 in
theorem ws4 : (itO ft oraNone 19995).exec (a10.body.snd.snd.snd.snd.fst) (.n wd50 (some (.bool false)) wd53) ⟨wd67, 173, 0⟩ = some (.normal, wd75, ⟨wd67, 173, 0⟩) := by kernel_rfl
def wd76 : T AV := .n (L (some (.tup [(.slc (some (168, 0)) 3 3 40 .tail), (i 0)]))) none (L (some (.tup [(i 7), (i 0)])))
def wd77 : T AV := .n (.n wd76 (J 15) (.n (L (J 0)) none .e)) (some (.slc (some (168, 0)) 3 3 40 .tail)) wd69
def wd78 : T AV := .n (.n (L (J 0)) none (L (J 0))) (J 7) (.n (L (some (.agg [(i 10), (.slc (some (4, 0)) 3 3 31 .exact)]))) none .e)
def wd79 : T AV := .n (L (some (.tup [(i 7), (i 0)]))) (some (.tup [(.slc (some (168, 0)) 3 3 40 .tail), (i 0)])) .e
def wd80 : T AV := .n wd77 (some (.ptr (some (10, 0)))) (.n wd78 (J 20) (.n (.n (L (some (.tup [(i 20), (i 0)]))) none .e) none wd79))
def wd81 : T AV := .n (.n (L (some (.slc (some (168, 0)) 3 3 40 .tail))) none (L (J 7))) (J 0) (.n (L (some (.tup [(i 15), (i 0)]))) none .e)
def wd82 : T AV := .n (.n (L (some (.tup [(i 20), (i 0)]))) none .e) (J 0) (.n (L (some (.tup [(i 15), (i 0)]))) none .e)
def wd83 : T AV := .n (L (some (.agg [(i 10), (.slc (some (4, 0)) 3 3 31 .exact)]))) (some (.agg [(i 10), (.slc (some (4, 0)) 3 3 31 .exact)])) .e
def wd84 : T AV := .n (.n wd81 (J 0) wd73) (some (.ptr (some (11, 0)))) (.n wd82 (J 0) (.n (.n (L (J 20)) none .e) none wd83))
set_option maxHeartbeats 0 in
theorem ws5 : (itO ft oraNone 19994).exec (a10.body.snd.snd.snd.snd.snd.fst) wd75 ⟨wd67, 173, 0⟩ = some (.normal, (.n wd80 (some (.bool false)) wd84), ⟨wd67, 173, 0⟩) := by kernel_rfl
def wd85 : T AV := .n (L (some (.agg [(i 10), (.slc (some (4, 0)) 3 3 31 .exact)]))) none (L (some (.agg [(i 10), (.slc (some (4, 0)) 3 3 31 .exact)])))
def wd86 : T AV := .n wd85 (J 0) (.n (L (J 15)) (some (.agg [(i 10), (.slc (some (4, 0)) 3 3 31 .exact)])) .e)
def wd87 : T AV := .n (.n wd76 (J 15) (.n (L (J 0)) none .e)) (some (.slc (some (168, 0)) 3 3 40 .tail)) wd86
def wd88 : T AV := .n wd87 (some (.ptr (some (10, 0)))) (.n wd78 (J 20) (.n (.n (L (some (.tup [(i 20), (i 0)]))) none (L (J 0))) none wd79))
def wd89 : T AV := .n (L (some (.slc (some (172, 0)) 3 3 40 .exact))) none (L (some (.tup [(i 0), (i 20)])))
def wd90 : T AV := .n wd89 (J 20) (.n (L (J 0)) (some (.agg [(i 10), (.slc (some (9, 0)) 3 3 31 .exact)])) .e)
def wd91 : T AV := .n (.n (L (some (.tup [(i 20), (i 0)]))) none (L (some (.tup [(i 0), (i 20)])))) (J 0) (.n (L (some (.tup [(i 15), (i 0)]))) none .e)
def wd92 : T AV := .n (.n wd81 (J 0) wd90) (some (.ptr (some (11, 0)))) (.n wd91 (J 0) (.n (.n (L (J 20)) none (L (J 20))) none wd83))
set_option maxHeartbeats 0 in
theorem ws6 : (itO ft oraNone 19993).exec (a10.body.snd.snd.snd.snd.snd.snd.fst) (.n wd80 (some (.bool false)) wd84) ⟨wd67, 173, 0⟩ = some (.normal, (.n wd88 (some (.bool false)) wd92), ⟨wd67, 173, 0⟩) := by kernel_rfl
def wd93 : T AV := .n wd85 (J 0) (.n (L (J 15)) (some (.agg [(i 10), (.slc (some (4, 0)) 3 3 31 .exact)])) (L (J 15)))
def wd94 : T AV := .n (.n wd76 (J 15) (.n (L (J 0)) none (L (some (.tup [(i 15), (i 0)]))))) (some (.slc (some (168, 0)) 3 3 40 .tail)) wd93
def wd95 : T AV := .n (L (some (.agg [(i 10), (.slc (some (4, 0)) 3 3 31 .exact)]))) none (L (some (.slc (some (173, 0)) 3 3 2 .exact)))
def wd96 : T AV := .n (.n (.n (L (J 0)) none (L (J 0))) (J 7) wd95) (J 20) (.n (.n (L (some (.tup [(i 20), (i 0)]))) none (L (J 0))) (J 15) wd79)
def wd97 : T AV := .n (L (some (.tup [(i 15), (i 0)]))) none (L (some (.agg [(i 10), (.slc (some (4, 0)) 3 3 31 .exact)])))
def wd98 : T AV := .n wd89 (J 20) (.n (L (J 0)) (some (.agg [(i 10), (.slc (some (9, 0)) 3 3 31 .exact)])) (L (J 0)))
def wd99 : T AV := .n (.n (.n (L (some (.slc (some (168, 0)) 3 3 40 .tail))) none (L (J 7))) (J 0) wd97) (J 0) wd98
def wd100 : T AV := .n (.n (L (some (.tup [(i 20), (i 0)]))) none (L (some (.tup [(i 0), (i 20)])))) (J 0) (.n (L (some (.tup [(i 15), (i 0)]))) none (L (some (.tup [(i 15), (i 0)]))))
def wd101 : T AV := .n wd99 (some (.ptr (some (11, 0)))) (.n wd100 (J 0) (.n (.n (L (J 20)) none (L (J 20))) (J 0) wd83))
def wd102 : T AObj := .n (.n (L (I [2,11])) (I [-1,4,1,2,9,1,2,1]) .e) (I [2,3,1,1,6,1,10,1]) (.n (L (I [1,2,5])) (I [15]) .e)
def wd103 : T AObj := .n wd102 (I [2,5,2,1,10,2,8,2]) (.n (.n wd25 (I [-1,6]) .e) (I [2,5,2,1,10,2,8,2]) (L (I [2,3,1,1,6,1,10,1])))
def wd104 : T AObj := .n (.n (.n (.n (L none) (I [4]) .e) (I [2,3]) wd23) (I [0,0,5,0,3,0,0,0,0,0]) wd24) (C [(i 10), (.slc (some (4, 0)) 3 3 31 .exact)]) wd103
def wd105 : T AObj := .n (.n wd21 (I [2,3,1,1,6,1,10,1,2,5,2,1,10,2,8,2,-1,4,1,2,4,1,2,1]) wd58) (C [(i 10), (.slc (some (9, 0)) 3 3 31 .exact)]) wd104
def wd106 : T AObj := .n (.n wd56 (I [2,3,1,1,6,1,10,1]) wd105) (C [(i 10), (.slc (some (4, 0)) 3 3 31 .exact)]) wd66
set_option maxHeartbeats 0 in
theorem ws7 : (itO ft oraNone 19992).exec (a10.body.snd.snd.snd.snd.snd.snd.snd.fst) (.n wd88 (some (.bool false)) wd92) ⟨wd67, 173, 0⟩ = some (.normal, (.n (.n wd94 (some (.ptr (some (10, 0)))) wd96) (some (.bool false)) wd101), ⟨wd106, 174, 0⟩) := by kernel_rfl
def wd107 : T AV := .n (L (some (.tup [(.slc (some (323, 0)) 3 3 2 .exact), (i 0)]))) (some (.tup [(.slc (some (168, 0)) 3 3 40 .tail), (i 0)])) .e
def wd108 : T AV := .n (.n wd107 (some (.slc (some (323, 0)) 3 3 2 .exact)) (L (some (.tup [(i 7), (i 0)])))) (J 15) (.n (L (J 0)) none (L (some (.tup [(i 15), (i 0)]))))
def wd109 : T AV := .n (L (some (.tup [(i 7), (i 0)]))) (some (.tup [(.slc (some (168, 0)) 3 3 40 .tail), (i 0)])) (L (some (.tup [(.slc (some (323, 0)) 3 3 2 .exact), (i 0)])))
def wd110 : T AV := .n (.n (.n (.n (L (J 0)) (J 0) .e) none (L (J 0))) (J 7) wd95) (J 20) (.n (.n (L (some (.tup [(i 20), (i 0)]))) none (L (J 0))) (J 15) wd109)
def wd111 : T AV := .n (.n wd108 (some (.slc (some (168, 0)) 3 3 40 .tail)) wd93) (some (.ptr (some (10, 0)))) wd110
def wd112 : T AV := .n (L (some (.slc (some (323, 0)) 3 3 2 .exact))) (some (.slc (some (168, 0)) 3 3 40 .tail)) .e
def wd113 : T AV := .n (L (some (.agg [(i 10), (.slc (some (4, 0)) 3 3 31 .exact)]))) (some (.agg [(i 10), (.slc (some (4, 0)) 3 3 31 .exact)])) (L (some (.agg [(i 10), (.slc (some (4, 0)) 3 3 31 .exact)])))
def wd114 : T AV := .n (.n (.n (.n wd112 (J 0) (L (J 7))) (J 0) wd97) (J 0) wd98) (some (.ptr (some (11, 0)))) (.n wd100 (J 0) (.n (.n (L (J 20)) none (L (J 20))) (J 0) wd113))
def wd115 : T AObj := .n (.n (L (I [2,5])) (I [2,5,2,1,10,2,8,2]) .e) (I [2,5]) (.n (L (I [10,8,20,0,0,0,0,0])) (I [2,3,1,1,6,1,10,1]) .e)
def wd116 : T AObj := .n (.n (L (I [10,8,20,0,0,0,0,0])) (I [0,0,0,4,8,11,15,17,20,20,20]) .e) none (L (I [2,4]))
def wd117 : T AObj := .n (.n (.n (L none) (I [2,9]) .e) (I [-1,5]) (L (I [10,8,5,0,0,0,0,0]))) (I [2,3]) (.n (.n (L (I [1,9])) (I [6]) .e) (I [10,8,20,0,0,0,0,0]) (L (I [1,4])))
def wd118 : T AObj := .n (.n (L (I [10,8,20,0,0,0,0,0])) (C [(.slc (some (166, 0)) 10 10 2 .exact)]) .e) (I [1,6]) (L none)
def wd119 : T AObj := .n (.n (.n (L (I [0,6])) none .e) (I [10,8,11,0,0,0,0,0]) (L (I [1,1]))) (I [2,1]) wd118
def wd120 : T AObj := .n (.n (.n (L (I [2,9])) (I [0,10]) .e) (I [2,6]) (L (I [-1,3]))) (I [0]) (.n (.n (L none) none .e) (I [-1,8]) (L (I [10,8,17,0,0,0,0,0])))
def wd121 : T AObj := .n (.n (.n wd115 (I [10,0,2,0,0,0,0,0]) wd116) (I [0,0,0,0,0,0,0,0]) wd117) (I [2,5,2,1,10,2,8,2]) (.n wd119 none wd120)
def wd122 : T AObj := .n (.n (L (I [11])) (I [-1,9]) .e) (I [10,8,8,0,0,0,0,0]) (.n (L (I [1,2,5])) (I [2,3,1,1,6,1,10,1]) .e)
def wd123 : T AObj := .n (.n (L (I [1,8])) (I [0,0,5,0,3,0,0,0,0,0]) .e) (I [2,3,1,1,6,1,10,1]) (L (I [-1,4,1,2,9,1,2,1]))
def wd124 : T AObj := .n (.n (.n (L (I [2,3,1,1,6,1,10,1])) (I [20]) .e) none (L (I [2,5,2,1,10,2,8,2]))) (I [2,2]) (.n (.n (L (I [-1,10])) (I [0]) .e) (I [1,7]) (L (I [10,8,11,0,0,0,0,0])))
def wd125 : T AObj := .n (.n wd122 (I [2,5,2,1,10,2,8,2]) wd123) (C [(.slc (some (18, 0)) 10 10 2 .exact)]) wd124
def wd126 : T AObj := .n (.n (L (I [-1,4,1,2,9,1,2,1])) (I [2,5,2,1,10,2,8,2]) .e) (I [2,5,2,1,10,2,8,2]) (L (I [10,0,2,0,0,0,0,0]))
def wd127 : T AObj := .n (.n (L (I [10,8,20,0,0,0,0,0])) (I [0,4,4,3,4,2,3,0,0,0]) .e) (I [10,8,17,0,0,0,0,0]) (L (I [2,3,1,1,6,1,10,1]))
def wd128 : T AObj := .n (.n (L (I [2,5,2,1,10,2,8,2])) (I [0,4,4,3,4,2,3,0,0,0]) .e) none (L (I [2,5,2,1,10,2,8,2]))
def wd129 : T AObj := .n (.n (.n (L (I [10,8,20,0,0,0,0,0])) (I [2,10]) .e) (I [-1,4,1,2,9,1,2,1]) (L none)) (I [0,3]) wd128
def wd130 : T AObj := .n (.n wd126 none wd127) (some (.map [((.agg [(i (-1)), (i 3)]), (i 4), 5), ((.agg [(i (-1)), (i 4)]), (i 4), 8), ((.agg [(i (-1)), (i 5)]), (i 3), 9), ((.agg [(i (-1)), (i 6)]), (i 4), 12), ((.agg [(i (-1)), (i 7)]), (i 2), 13), ((.agg [(i (-1)), (i 8)]), (i 3), 15), ((.agg [(i (-1)), (i 9)]), (i 0), 16), ((.agg [(i 2), (i 11)]), (i 0), 17), ((.agg [(i (-1)), (i 10)]), (i 0), 18)] 19)) wd129
def wd131 : T AObj := .n wd121 (I [-1,4,1,2,9,1,2,1]) (.n wd125 (C [(i 10), (.slc (some (9, 0)) 3 3 31 .exact)]) wd130)
def wd132 : T AObj := .n (.n (L (I [10,8,17,0,0,0,0,0])) (I [-1,4,1,2,9,1,2,1]) .e) (I [2,3]) (.n (L (I [20])) (I [-1,4,1,2,9,1,2,1]) .e)
def wd133 : T AObj := .n wd132 (I [0,1]) (.n (.n (L (I [0,8])) (C [(.slc (some (160, 0)) 10 10 2 .exact)]) .e) none (L (I [1,3])))
def wd134 : T AObj := .n (.n (L (I [-1,4,1,2,9,1,2,1])) (C [(i 10), (.slc (some (4, 0)) 3 3 31 .exact)]) .e) (I [0,7]) (L (I [2,4]))
def wd135 : T AObj := .n wd133 (C [(i 10), (.slc (some (4, 0)) 3 3 31 .exact), (.slc (some (26, 0)) 3 3 40 .tail), (.slc (some (157, 0)) 11 11 64 .tail), (.slc (some (159, 0)) 11 11 2 .tail), (i 10), (i 8), (i 20), (i 0), (i 0), (i 0), (i 0), (i 0)]) (.n (.n (.n (L none) (I [10,8,20,0,0,0,0,0]) .e) none (L (I [0,2]))) (I [1,2]) wd134)
def wd136 : T AObj := .n (.n (L (I [2,5,2,1,10,2,8,2])) (I [2,3,1,1,6,1,10,1]) .e) (I [0,4]) (L (I [-1,4,1,2,9,1,2,1]))
def wd137 : T AObj := .n (.n (L (I [2,3,1,1,6,1,10,1])) (C [(.slc (some (184, 0)) 10 10 2 .exact)]) .e) none (L (I [0,5]))
def wd138 : T AObj := .n (.n (.n (L (I [2,7])) (I [1,10]) .e) (I [1,5]) (L none)) (I [10,8,8,0,0,0,0,0]) wd137
def wd139 : T AObj := .n (.n wd136 none (.n (.n (L (I [20])) (I [3,3,3,1,0,0,0,0,0,0]) .e) (I [2,6]) (L none))) (C [(.slc (some (24, 0)) 10 10 2 .exact)]) wd138
def wd140 : T AObj := .n (.n (L (I [10,8,17,0,0,0,0,0])) none .e) (I [4]) (.n (L (I [2,5,2,1,10,2,8,2])) (I [2,2]) .e)
def wd141 : T AObj := .n (L (I [2,8])) (C [(.slc (some (160, 0)) 10 10 2 .exact), (.slc (some (163, 0)) 10 10 2 .exact)]) .e
def wd142 : T AObj := .n (.n (L (I [2,5,2,1,10,2,8,2])) (I [10,8,20,0,0,0,0,0]) .e) (I [2,3,1,1,6,1,10,1]) (L (I [-1,4,1,2,9,1,2,1]))
def wd143 : T AObj := .n wd142 (I [10,8,5,0,0,0,0,0]) (.n (.n (L none) (I [3,3,3,1,0,0,0,0,0,0]) .e) (I [-1,4,1,2,9,1,2,1]) (L (I [8])))
def wd144 : T AObj := .n (.n wd140 (I [2,3]) (.n wd141 (I [2,7]) (L (I [-1,4])))) (I [0,0,5,0,3,0,0,0,0,0]) wd143
def wd145 : T AObj := .n (.n (.n (L (I [-1,7])) (I [2,11]) .e) (I [-1,4,1,2,9,1,2,1]) (L (I [0]))) (I [2,3,1,1,6,1,10,1]) (.n (.n (L (I [0,9])) (I [1,2,5]) .e) (I [15]) (L (I [2,5])))
def wd146 : T AObj := .n (L (I [17])) (I [0,0,0,0,0,0,0,0,10,0,2,0,0,0,0,0,10,8,5,0,0,0,0,0,10,8,8,0,0,0,0,0,10,8,11,0,0,0,0,0,10,8,17,0,0,0,0,0,10,8,17,0,0,0,0,0,10,8,20,0,0,0,0,0,10,8,20,0,0,0,0,0,10,8,20,0,0,0,0,0,10,8,20,0,0,0,0,0]) .e
def wd147 : T AObj := .n (L (I [-1,4,1,2,9,1,2,1])) (C [(.slc (some (181, 0)) 10 10 2 .exact), (.slc (some (184, 0)) 10 10 2 .exact), (.slc (some (187, 0)) 10 10 2 .exact)]) .e
def wd148 : T AObj := .n (.n wd146 (I [-1,6]) (L (I [2,3,1,1,6,1,10,1]))) (I [2,5,2,1,10,2,8,2]) (.n wd147 (I [2,3,1,1,6,1,10,1]) (L (I [2,7])))
def wd149 : T AObj := .n wd144 (C [(i 10), (.slc (some (4, 0)) 3 3 31 .exact)]) (.n wd145 (I [2,5,2,1,10,2,8,2]) wd148)
def wd150 : T AObj := .n (.n wd135 (I [2,3,1,1,6,1,10,1,2,5,2,1,10,2,8,2,-1,4,1,2,4,1,2,1]) wd139) (C [(i 10), (.slc (some (9, 0)) 3 3 31 .exact)]) wd149
def wd151 : T AObj := .n (.n (L (I [-1,6])) (I [1,8]) .e) (I [-1,4,1,2,9,1,2,1]) (.n wd25 (I [2,5,2,1,10,2,8,2]) .e)
def wd152 : T AObj := .n (.n (L (I [2,3,1,1,6,1,10,1])) (I [3,3,3,1,0,0,0,0,0,0]) .e) (I [11]) (L (I [2,5,2,1,10,2,8,2]))
def wd153 : T AObj := .n (.n (L (I [2,11])) (C [(i 10), (.slc (some (4, 0)) 3 3 31 .exact)]) .e) (I [2,3,1,1,6,1,10,1]) (L (I [-1,4,1,2,9,1,2,1]))
def wd154 : T AObj := .n (.n (.n (L (I [15])) (I [-1,10]) .e) (I [10,8,11,0,0,0,0,0]) (L (I [2,3,1,1,6,1,10,1]))) (I [2,5,2,1,10,2,8,2]) wd153
def wd155 : T AObj := .n (L none) (C [(.slc (some (160, 0)) 10 10 2 .exact), (.slc (some (163, 0)) 10 10 2 .exact), (.slc (some (166, 0)) 10 10 2 .exact)]) .e
def wd156 : T AObj := .n (.n (.n (L (I [2,7])) (I [10,8,20,0,0,0,0,0]) .e) (I [2,3,1,1,6,1,10,1]) (L (I [2,3]))) (I [10,0,2,0,0,0,0,0]) (.n wd155 (I [-1,4,1,2,9,1,2,1]) (L (I [4])))
def wd157 : T AObj := .n (.n (L (I [-1,4,1,2,9,1,2,1])) (I [2,5,2,1,10,2,8,2]) .e) (I [2,5,2,1,10,2,8,2]) (L (I [10,8,5,0,0,0,0,0]))
def wd158 : T AObj := .n (.n (L (I [10,8,20,0,0,0,0,0])) (I [0,0,5,0,3,0,0,0,0,0]) .e) (I [10,8,20,0,0,0,0,0]) (L (I [2,3,1,1,6,1,10,1]))
def wd159 : T AObj := .n (.n (.n wd151 (I [2,3,1,1,6,1,10,1]) wd152) (I [0]) wd154) (I [-1,4,1,2,4,1,2,1]) (.n wd156 (I [0,4,4,3,4,2,3,0,0,0]) (.n wd157 none wd158))
def wd160 : T AObj := .n (.n (L none) (I [10,8,20,0,0,0,0,0]) .e) none (.n (L (I [-1,4,1,2,9,1,2,1])) (I [0,1]) .e)
def wd161 : T AObj := .n (.n (L (I [-1,4,1,2,9,1,2,1])) (C [(.slc (some (163, 0)) 10 10 2 .exact)]) .e) (I [0,6]) (L (I [2,3]))
def wd162 : T AObj := .n (L (I [10,8,20,0,0,0,0,0])) (C [(i 10), (.slc (some (4, 0)) 3 3 31 .exact), (.slc (some (189, 0)) 3 3 40 .tail), (.slc (some (320, 0)) 11 11 64 .tail), (.slc (some (322, 0)) 11 11 2 .tail), (i 10), (i 8), (i 20), (i 0), (i 0), (i 0), (i 0), (i 0)]) .e
def wd163 : T AObj := .n (.n (.n (L (I [0,7])) none .e) (I [10,8,17,0,0,0,0,0]) (L (I [1,2]))) (I [-1,3]) (.n wd162 (I [2,9]) (L none))
def wd164 : T AObj := .n (L (I [2,3,1,1,6,1,10,1])) (C [(.slc (some (169, 0)) 10 10 2 .exact), (.slc (some (170, 0)) 10 10 2 .exact), (.slc (some (171, 0)) 10 10 2 .exact)]) .e
def wd165 : T AObj := .n (.n (.n (L (I [2,6])) (I [1,9]) .e) (I [1,4]) (L none)) (I [10,8,5,0,0,0,0,0]) (.n wd164 none (L (I [0,4])))
def wd166 : T AObj := .n (.n (L (I [1,10])) (C [(.slc (some (187, 0)) 10 10 2 .exact)]) .e) (I [10,8,20,0,0,0,0,0]) (L (I [1,5]))
def wd167 : T AObj := .n (.n (.n (L none) (I [10,8,20,0,0,0,0,0]) .e) (I [2,5]) (L (I [10,8,8,0,0,0,0,0]))) (I [2,4]) wd166
def wd168 : T AObj := .n (.n (.n wd160 (I [1,1]) wd161) none wd163) (C [(i 10), (.slc (some (4, 0)) 3 3 31 .exact)]) (.n wd165 (I [2,3,1,1,6,1,10,1]) wd167)
def wd169 : T AObj := .n (.n (L none) (I [2,8]) .e) (I [-1,4]) (.n (L (I [0,0,0,4,8,11,15,17,20,20,20])) (I [10,0,2,0,0,0,0,0]) .e)
def wd170 : T AObj := .n (.n (L (I [2,5,2,1,10,2,8,2])) (C [(.slc (some (160, 0)) 10 10 2 .exact)]) .e) (I [10,8,17,0,0,0,0,0]) (L (I [2,5]))
def wd171 : T AObj := .n (.n (.n (L (I [10,8,20,0,0,0,0,0])) none .e) (I [8]) (L (I [2,3]))) (I [-1,4,1,2,9,1,2,1]) (.n (.n (L (I [2,9])) (I [0,0,0,0,0,0,0,0]) .e) (I [2,5,2,1,10,2,8,2]) (L (I [-1,5])))
def wd172 : T AObj := .n (.n (.n (L (I [1,6])) (I [0,9]) .e) (I [2,5]) (L (I [2,1]))) (I [0]) (.n (.n (L none) (I [0,0,5,0,3,0,0,0,0,0]) .e) (I [-1,7]) (L (I [10,8,11,0,0,0,0,0])))
def wd173 : T AObj := .n (.n (.n (L (I [-1,8])) (I [-1,4,1,2,9,1,2,1]) .e) (I [2,7]) (L (I [0]))) (I [2,3,1,1,6,1,10,1]) (.n (.n (L (I [0,10])) none .e) (I [17]) (L (I [2,6])))
def wd174 : T AObj := .n wd172 (C [(.slc (some (18, 0)) 10 10 2 .exact), (.slc (some (21, 0)) 10 10 2 .exact), (.slc (some (24, 0)) 10 10 2 .exact)]) wd173
def wd175 : T AObj := .n (.n (.n wd169 (I [2,2]) wd170) (I [3,3,3,1,0,0,0,0,0,0]) wd171) (C [(i 10), (.slc (some (4, 0)) 3 3 31 .exact)]) wd174
def wd176 : T AObj := .n (.n (L (I [2,3,1,1,6,1,10,1])) (I [20]) .e) none (.n (L (I [2,3,1,1,6,1,10,1])) (I [2,5,2,1,10,2,8,2]) .e)
def wd177 : T AObj := .n (.n (L (I [-1,9])) (I [0,4,4,3,4,2,3,0,0,0]) .e) (I [2,5,2,1,10,2,8,2]) (L (I [10,8,8,0,0,0,0,0]))
def wd178 : T AObj := .n (.n (.n (L (I [1,7])) (I [2,3,1,1,6,1,10,1]) .e) (I [0,5]) (L (I [2,2]))) none (.n (.n (L (I [20])) (C [(.slc (some (181, 0)) 10 10 2 .exact)]) .e) (I [2,7]) (L none))
def wd179 : T AObj := .n (.n wd176 (I [-1,4,1,2,9,1,2,1]) wd177) (C [(.slc (some (21, 0)) 10 10 2 .exact)]) wd178
def wd180 : T AObj := .n (.n (L (I [2,5,2,1,10,2,8,2])) (C [(i 10), (.slc (some (4, 0)) 3 3 31 .exact)]) .e) none (L (I [2,5,2,1,10,2,8,2]))
def wd181 : T AObj := .n (.n (.n (L (I [10,8,17,0,0,0,0,0])) (I [-1,4,1,2,9,1,2,1]) .e) (I [2,4]) (L none)) (I [0,2]) wd180
def wd182 : T AObj := .n (L (I [2,10])) (some (.map [((.agg [(i (-1)), (i 3)]), (i 4), 5), ((.agg [(i (-1)), (i 4)]), (i 4), 8), ((.agg [(i (-1)), (i 5)]), (i 3), 9), ((.agg [(i (-1)), (i 6)]), (i 4), 12), ((.agg [(i (-1)), (i 7)]), (i 2), 13), ((.agg [(i (-1)), (i 8)]), (i 3), 15), ((.agg [(i (-1)), (i 9)]), (i 0), 16), ((.agg [(i 2), (i 11)]), (i 0), 17), ((.agg [(i (-1)), (i 10)]), (i 0), 18)] 19)) .e
def wd183 : T AObj := .n (.n (.n (L none) (I [20]) .e) (I [10,8,17,0,0,0,0,0]) (L (I [0,3]))) (I [1,3]) (.n wd182 (I [0,8]) (L (I [-1,4,1,2,9,1,2,1])))
def wd184 : T AObj := .n wd179 (C [(i 10), (.slc (some (4, 0)) 3 3 31 .exact)]) (.n wd181 (I [-1,4,1,2,9,1,2,1]) wd183)
def wd185 : T AObj := .n (.n wd159 (I [2,3,1,1,6,1,10,1,2,5,2,1,10,2,8,2,-1,4,1,2,9,1,2,1]) wd168) (I [2,5,2,1,10,2,8,2]) (.n wd175 (I [2,3,1,1,6,1,10,1]) wd184)
def wd186 : T AObj := .n (.n wd131 (I [2,3,1,1,6,1,10,1]) wd150) (C [(i 10), (.slc (some (4, 0)) 3 3 31 .exact)]) wd185
set_option maxHeartbeats 0 in
theorem ws8 : (itO ft oraNone 19991).exec (a10.body.snd.snd.snd.snd.snd.snd.snd.snd.fst) (.n (.n wd94 (some (.ptr (some (10, 0)))) wd96) (some (.bool false)) wd101) ⟨wd106, 174, 0⟩ = some (.normal, (.n wd111 (some (.bool false)) wd114), ⟨wd186, 327, 0⟩) := by kernel_rfl
def wd187 : T AV := .n (L (some (.agg [(i 10), (.slc (some (9, 0)) 3 3 31 .exact)]))) (some (.agg [(i 10), (.slc (some (4, 0)) 3 3 31 .exact)])) .e
def wd188 : T AV := .n (.n wd187 none (L (some (.agg [(i 10), (.slc (some (4, 0)) 3 3 31 .exact)])))) (J 0) (.n (L (J 15)) (some (.agg [(i 10), (.slc (some (4, 0)) 3 3 31 .exact)])) (L (J 15)))
def wd189 : T AV := .n (.n (.n (L (J 0)) (J 0) .e) (some (.slc (some (475, 0)) 3 3 2 .tail)) (L (J 0))) (J 7) wd95
def wd190 : T AV := .n (.n (L (some (.slc (some (475, 0)) 3 3 2 .tail))) (some (.tup [(i 20), (i 0)])) .e) none (L (J 0))
def wd191 : T AV := .n (.n wd108 (some (.slc (some (168, 0)) 3 3 40 .tail)) wd188) (some (.ptr (some (10, 0)))) (.n wd189 (J 20) (.n wd190 (J 15) wd109))
def wd192 : T AV := .n (L (some (.tup [(.slc (some (475, 0)) 3 3 2 .tail), (i 0)]))) (some (.slc (some (172, 0)) 3 3 40 .exact)) .e
def wd193 : T AV := .n (.n wd192 none (L (some (.tup [(i 0), (i 20)])))) (J 20) (.n (L (J 0)) (some (.agg [(i 10), (.slc (some (9, 0)) 3 3 31 .exact)])) (L (J 0)))
def wd194 : T AV := .n (L (some (.tup [(.slc (some (475, 0)) 3 3 2 .tail), (i 0)]))) (some (.tup [(i 20), (i 0)])) .e
def wd195 : T AV := .n (.n wd194 (J 0) (L (some (.tup [(i 0), (i 20)])))) (J 0) (.n (L (some (.tup [(i 15), (i 0)]))) none (L (some (.tup [(i 15), (i 0)]))))
def wd196 : T AV := .n (.n (.n (.n wd112 (J 0) (L (J 7))) (J 0) wd97) (J 0) wd193) (some (.ptr (some (11, 0)))) (.n wd195 (J 0) (.n (.n (.n (L (J 0)) (J 20) .e) none (L (J 20))) (J 0) wd113))
def wd197 : T AObj := .n (.n (L (I [2,5])) (I [2,5,2,1,10,2,8,2]) (L none)) (I [2,5]) (.n (L (I [10,8,20,0,0,0,0,0])) (I [2,3,1,1,6,1,10,1]) (L (I [10,8,20,0,0,0,0,0])))
def wd198 : T AObj := .n (.n (L (I [10,8,20,0,0,0,0,0])) (I [0,0,0,4,8,11,15,17,20,20,20]) (L (I [2,7]))) none (.n (L (I [1,1])) (I [2,4]) .e)
def wd199 : T AObj := .n (.n (L none) (I [2,9]) (L (I [10,8,17,0,0,0,0,0]))) (I [-1,5]) (.n (L none) (I [10,8,5,0,0,0,0,0]) (L (I [1,10])))
def wd200 : T AObj := .n (.n (L (I [1,9])) (I [6]) (L (I [2,7]))) (I [10,8,20,0,0,0,0,0]) (.n (L (I [-1,3])) (I [1,4]) .e)
def wd201 : T AObj := .n (.n wd197 (I [10,0,2,0,0,0,0,0]) wd198) (I [0,0,0,0,0,0,0,0]) (.n wd199 (I [2,3]) wd200)
def wd202 : T AObj := .n (L (C [(i 10), (.slc (some (9, 0)) 3 3 31 .exact)])) (I [1,1]) (L (I [10,8,20,0,0,0,0,0]))
def wd203 : T AObj := .n (.n (L (I [10,8,20,0,0,0,0,0])) (C [(.slc (some (166, 0)) 10 10 2 .exact)]) (L none)) (I [1,6]) (.n (L (I [10,8,5,0,0,0,0,0])) none .e)
def wd204 : T AObj := .n (.n (.n (L (I [0,6])) none (L (I [1,4]))) (I [10,8,11,0,0,0,0,0]) wd202) (I [2,1]) wd203
def wd205 : T AObj := .n (.n (L (I [2,9])) (I [0,10]) (L (I [2,5]))) (I [2,6]) (.n (L (I [2,3,1,1,6,1,10,1])) (I [-1,3]) (L none))
def wd206 : T AObj := .n (.n (L none) none (L (I [2,5,2,1,10,2,8,2]))) (I [-1,8]) (.n (L (I [2,4])) (I [10,8,17,0,0,0,0,0]) .e)
def wd207 : T AObj := .n (.n (L (I [11])) (I [-1,9]) (L (I [2,3,1,1,6,1,10,1]))) (I [10,8,8,0,0,0,0,0]) (.n (L (I [1,2,5])) (I [2,3,1,1,6,1,10,1]) (L (I [1,9])))
def wd208 : T AObj := .n (.n (L (I [1,8])) (I [0,0,5,0,3,0,0,0,0,0]) (L (I [2,6]))) (I [2,3,1,1,6,1,10,1]) (.n (L (I [10,0,2,0,0,0,0,0])) (I [-1,4,1,2,9,1,2,1]) .e)
def wd209 : T AObj := .n (.n (L (I [2,3,1,1,6,1,10,1])) (I [20]) (L (I [2,5,2,1,10,2,8,2]))) none (.n (L (I [0,4,4,3,0,0,0,0,0,0])) (I [2,5,2,1,10,2,8,2]) wd25)
def wd210 : T AObj := .n (.n (L (I [-1,10])) (I [0]) (L none)) (I [1,7]) (.n (L none) (I [10,8,11,0,0,0,0,0]) .e)
def wd211 : T AObj := .n (.n wd207 (I [2,5,2,1,10,2,8,2]) wd208) (C [(.slc (some (18, 0)) 10 10 2 .exact)]) (.n wd209 (I [2,2]) wd210)
def wd212 : T AObj := .n (.n (L (I [-1,4,1,2,9,1,2,1])) (I [2,5,2,1,10,2,8,2]) (L (I [10,8,11,0,0,0,0,0]))) (I [2,5,2,1,10,2,8,2]) (.n (L (I [0])) (I [10,0,2,0,0,0,0,0]) (L (I [10,8,20,0,0,0,0,0])))
def wd213 : T AObj := .n (.n (L (I [10,8,20,0,0,0,0,0])) (I [0,4,4,3,4,2,3,0,0,0]) (L (I [2,5,2,1,10,2,8,2]))) (I [10,8,17,0,0,0,0,0]) (.n (L (I [2,5,2,1,10,2,8,2])) (I [2,3,1,1,6,1,10,1]) .e)
def wd214 : T AObj := .n (.n (L (I [10,8,20,0,0,0,0,0])) (I [2,10]) (L none)) (I [-1,4,1,2,9,1,2,1]) (.n (L (I [2,3,1,1,6,1,10,1])) none (L (I [0,0,9])))
def wd215 : T AObj := .n (.n (L (I [2,5,2,1,10,2,8,2])) (I [0,4,4,3,4,2,3,0,0,0]) (L (I [10,8,20,0,0,0,0,0]))) none (.n (L (I [-1,4,1,2,4,1,2,1])) (I [2,5,2,1,10,2,8,2]) .e)
def wd216 : T AObj := .n (.n wd212 none wd213) (some (.map [((.agg [(i (-1)), (i 3)]), (i 4), 5), ((.agg [(i (-1)), (i 4)]), (i 4), 8), ((.agg [(i (-1)), (i 5)]), (i 3), 9), ((.agg [(i (-1)), (i 6)]), (i 4), 12), ((.agg [(i (-1)), (i 7)]), (i 2), 13), ((.agg [(i (-1)), (i 8)]), (i 3), 15), ((.agg [(i (-1)), (i 9)]), (i 0), 16), ((.agg [(i 2), (i 11)]), (i 0), 17), ((.agg [(i (-1)), (i 10)]), (i 0), 18)] 19)) (.n wd214 (I [0,3]) wd215)
def wd217 : T AObj := .n (.n wd201 (I [2,5,2,1,10,2,8,2]) (.n wd204 none (.n wd205 (I [0]) wd206))) (I [-1,4,1,2,9,1,2,1]) (.n wd211 (C [(i 10), (.slc (some (9, 0)) 3 3 31 .exact)]) wd216)
def wd218 : T AObj := .n (.n (L (I [10,8,17,0,0,0,0,0])) (I [-1,4,1,2,9,1,2,1]) (L none)) (I [2,3]) (.n (L (I [20])) (I [-1,4,1,2,9,1,2,1]) (L (I [0,9])))
def wd219 : T AObj := .n (.n (L (I [0,8])) (C [(.slc (some (160, 0)) 10 10 2 .exact)]) (L (I [1,6]))) none (.n (L (I [-1,4,1,2,4,1,2,1])) (I [1,3]) .e)
def wd220 : T AObj := .n (.n (L none) (I [10,8,20,0,0,0,0,0]) (L (I [0,5]))) none (.n (L (C [(.slc (some (336, 0)) 10 10 2 .exact)])) (I [0,2]) (L (I [2,10])))
def wd221 : T AObj := .n (.n (L (I [-1,4,1,2,9,1,2,1])) (C [(i 10), (.slc (some (4, 0)) 3 3 31 .exact)]) (L none)) (I [0,7]) (.n (L none) (I [2,4]) .e)
def wd222 : T AObj := .n (.n wd218 (I [0,1]) wd219) (C [(i 10), (.slc (some (4, 0)) 3 3 31 .exact), (.slc (some (26, 0)) 3 3 40 .tail), (.slc (some (157, 0)) 11 11 64 .tail), (.slc (some (159, 0)) 11 11 2 .tail), (i 10), (i 8), (i 20), (i 0), (i 0), (i 0), (i 0), (i 0)]) (.n wd220 (I [1,2]) wd221)
def wd223 : T AObj := .n (L (C [(i 10), (.slc (some (9, 0)) 3 3 31 .exact)])) (I [-1,4,1,2,9,1,2,1]) (L (I [11]))
def wd224 : T AObj := .n (.n (L (I [20])) (I [3,3,3,1,0,0,0,0,0,0]) (L (I [2,3,1,1,6,1,10,1]))) (I [2,6]) (.n (L (I [0,2])) none .e)
def wd225 : T AObj := .n (.n (.n (L (I [2,5,2,1,10,2,8,2])) (I [2,3,1,1,6,1,10,1]) (L (I [2,4]))) (I [0,4]) wd223) none wd224
def wd226 : T AObj := .n (.n (L (I [2,7])) (I [1,10]) (L none)) (I [1,5]) (.n (L (I [-1,4,1,2,4,1,2,1])) none (L none))
def wd227 : T AObj := .n (L (I [2,3,1,1,6,1,10,1])) (C [(.slc (some (184, 0)) 10 10 2 .exact)]) (L (I [-1,4,1,2,4,1,2,1]))
def wd228 : T AObj := .n wd225 (C [(.slc (some (24, 0)) 10 10 2 .exact)]) (.n wd226 (I [10,8,8,0,0,0,0,0]) (.n wd227 none (.n (L (I [1,3])) (I [0,5]) .e)))
def wd229 : T AObj := .n (.n (L (I [10,8,17,0,0,0,0,0])) none (L (I [2,5]))) (I [4]) (.n (L (I [2,5,2,1,10,2,8,2])) (I [2,2]) (L (I [-1,4,1,2,4,1,2,1])))
def wd230 : T AObj := .n (L (I [2,8])) (C [(.slc (some (160, 0)) 10 10 2 .exact), (.slc (some (163, 0)) 10 10 2 .exact)]) (L none)
def wd231 : T AObj := .n .e (C [(.slc (some (333, 0)) 10 10 2 .exact), (.slc (some (336, 0)) 10 10 2 .exact), (.slc (some (339, 0)) 10 10 2 .exact)]) .e
def wd232 : T AObj := .n (.n (L (I [2,5,2,1,10,2,8,2])) (I [10,8,20,0,0,0,0,0]) (L (I [2,7]))) (I [2,3,1,1,6,1,10,1]) (.n wd231 (I [-1,4,1,2,9,1,2,1]) (L (I [0,0,0,4,8,11,11,11,11,11,11])))
def wd233 : T AObj := .n (.n (L none) (I [3,3,3,1,0,0,0,0,0,0]) (L (I [2,3,1,1,6,1,10,1]))) (I [-1,4,1,2,9,1,2,1]) (.n (L (I [2,3,1,1,6,1,10,1])) (I [8]) .e)
def wd234 : T AObj := .n (.n wd229 (I [2,3]) (.n wd230 (I [2,7]) (.n (L (I [0])) (I [-1,4]) .e))) (I [0,0,5,0,3,0,0,0,0,0]) (.n wd232 (I [10,8,5,0,0,0,0,0]) wd233)
def wd235 : T AObj := .n (.n (L (I [-1,7])) (I [2,11]) (L (I [8]))) (I [-1,4,1,2,9,1,2,1]) (.n (L (I [3,3,3,1,0,0,0,0,0,0])) (I [0]) (L (I [0,10])))
def wd236 : T AObj := .n (.n (L (I [0,9])) (I [1,2,5]) (L (I [2,9]))) (I [15]) (.n (L (I [-1,4,1,2,4,1,2,1])) (I [2,5]) .e)
def wd237 : T AObj := .n (L (I [17])) (I [0,0,0,0,0,0,0,0,10,0,2,0,0,0,0,0,10,8,5,0,0,0,0,0,10,8,8,0,0,0,0,0,10,8,11,0,0,0,0,0,10,8,17,0,0,0,0,0,10,8,17,0,0,0,0,0,10,8,20,0,0,0,0,0,10,8,20,0,0,0,0,0,10,8,20,0,0,0,0,0,10,8,20,0,0,0,0,0]) (L (I [2,3,1,1,6,1,10,1]))
def wd238 : T AObj := .n (L (I [-1,4,1,2,9,1,2,1])) (C [(.slc (some (181, 0)) 10 10 2 .exact), (.slc (some (184, 0)) 10 10 2 .exact), (.slc (some (187, 0)) 10 10 2 .exact)]) (L (I [11]))
def wd239 : T AObj := .n (.n wd237 (I [-1,6]) (.n (L (I [2,2])) (I [2,3,1,1,6,1,10,1]) .e)) (I [2,5,2,1,10,2,8,2]) (.n wd238 (I [2,3,1,1,6,1,10,1]) (.n (L (I [-1,4])) (I [2,7]) .e))
def wd240 : T AObj := .n wd234 (C [(i 10), (.slc (some (4, 0)) 3 3 31 .exact)]) (.n (.n wd235 (I [2,3,1,1,6,1,10,1]) wd236) (I [2,5,2,1,10,2,8,2]) wd239)
def wd241 : T AObj := .n (.n wd222 (I [2,3,1,1,6,1,10,1,2,5,2,1,10,2,8,2,-1,4,1,2,4,1,2,1]) wd228) (C [(i 10), (.slc (some (9, 0)) 3 3 31 .exact)]) wd240
def wd242 : T AObj := .n (.n (L (I [-1,6])) (I [1,8]) (L (I [4]))) (I [-1,4,1,2,9,1,2,1]) (.n wd25 (I [2,5,2,1,10,2,8,2]) (L (I [2,3,1,1,6,1,10,1])))
def wd243 : T AObj := .n (.n (L (I [2,3,1,1,6,1,10,1])) (I [3,3,3,1,0,0,0,0,0,0]) (L (I [2,5,2,1,10,2,8,2]))) (I [11]) (.n (L (I [2,3])) (I [2,5,2,1,10,2,8,2]) .e)
def wd244 : T AObj := .n (.n (L (I [15])) (I [-1,10]) (L (I [2,3,1,1,6,1,10,1]))) (I [10,8,11,0,0,0,0,0]) (.n (L (I [0,0,5,0,3,0,0,0,0,0])) (I [2,3,1,1,6,1,10,1]) (L (I [-1,4,1,2,4,1,2,1])))
def wd245 : T AObj := .n (L (I [2,11])) (C [(i 10), (.slc (some (4, 0)) 3 3 31 .exact)]) (L (I [10,8,20,0,0,0,0,0]))
def wd246 : T AObj := .n wd245 (I [2,3,1,1,6,1,10,1]) (.n (L (I [10,8,5,0,0,0,0,0])) (I [-1,4,1,2,9,1,2,1]) .e)
def wd247 : T AObj := .n (.n wd242 (I [2,3,1,1,6,1,10,1]) wd243) (I [0]) (.n wd244 (I [2,5,2,1,10,2,8,2]) wd246)
def wd248 : T AObj := .n (.n (L (I [2,7])) (I [10,8,20,0,0,0,0,0]) (L (I [-1,4,1,2,4,1,2,1]))) (I [2,3,1,1,6,1,10,1]) (.n (L (C [(i 10), (.slc (some (9, 0)) 3 3 31 .exact)])) (I [2,3]) (L none))
def wd249 : T AObj := .n (L none) (C [(.slc (some (160, 0)) 10 10 2 .exact), (.slc (some (163, 0)) 10 10 2 .exact), (.slc (some (166, 0)) 10 10 2 .exact)]) (L (I [10,8,20,0,0,0,0,0]))
def wd250 : T AObj := .n wd248 (I [10,0,2,0,0,0,0,0]) (.n wd249 (I [-1,4,1,2,9,1,2,1]) (.n (L (I [2,3,1,1,6,1,10,1])) (I [4]) .e))
def wd251 : T AObj := .n (.n (L (I [-1,4,1,2,9,1,2,1])) (I [2,5,2,1,10,2,8,2]) (L (I [10,8,17,0,0,0,0,0]))) (I [2,5,2,1,10,2,8,2]) (.n (L (I [2,5,2,1,10,2,8,2])) (I [10,8,5,0,0,0,0,0]) (L (I [0])))
def wd252 : T AObj := .n (.n (L (I [10,8,20,0,0,0,0,0])) (I [0,0,5,0,3,0,0,0,0,0]) (L (I [1,8]))) (I [10,8,20,0,0,0,0,0]) (.n (L (I [2,5,2,1,10,2,8,2])) (I [2,3,1,1,6,1,10,1]) .e)
def wd253 : T AObj := .n wd247 (I [-1,4,1,2,4,1,2,1]) (.n wd250 (I [0,4,4,3,4,2,3,0,0,0]) (.n wd251 none wd252))
def wd254 : T AObj := .n (.n (L none) (I [10,8,20,0,0,0,0,0]) (L (I [0,4]))) none (.n (L (I [-1,4,1,2,9,1,2,1])) (I [0,1]) (L (I [2,11])))
def wd255 : T AObj := .n (L (I [-1,4,1,2,9,1,2,1])) (C [(.slc (some (163, 0)) 10 10 2 .exact)]) (L (I [10,8,17,0,0,0,0,0]))
def wd256 : T AObj := .n (.n (L (I [0,7])) none (L (I [1,5]))) (I [10,8,17,0,0,0,0,0]) (.n (L (C [(.slc (some (339, 0)) 10 10 2 .exact)])) (I [1,2]) (L (I [11])))
def wd257 : T AObj := .n (L (I [10,8,20,0,0,0,0,0])) (C [(i 10), (.slc (some (4, 0)) 3 3 31 .exact), (.slc (some (189, 0)) 3 3 40 .tail), (.slc (some (320, 0)) 11 11 64 .tail), (.slc (some (322, 0)) 11 11 2 .tail), (i 10), (i 8), (i 20), (i 0), (i 0), (i 0), (i 0), (i 0)]) (L (I [10,8,20,0,0,0,0,0]))
def wd258 : T AObj := .n (.n wd254 (I [1,1]) (.n wd255 (I [0,6]) (.n (L none) (I [2,3]) .e))) none (.n wd256 (I [-1,3]) (.n wd257 (I [2,9]) (.n (L (I [10,8,8,0,0,0,0,0])) none .e)))
def wd259 : T AObj := .n .e (C [(i 10), (.slc (some (9, 0)) 3 3 31 .exact), (.slc (some (341, 0)) 3 3 40 .tail), (.slc (some (467, 0)) 11 11 64 .tail), (.slc (some (469, 0)) 11 11 2 .tail), (i 10), (i 8), (i 11), (i 0), (i 0), (i 0), (i 0), (i 0)]) .e
def wd260 : T AObj := .n (.n (L (I [2,6])) (I [1,9]) (L none)) (I [1,4]) (.n wd259 none (L (I [2,3,1,1,6,1,10,1])))
def wd261 : T AObj := .n (L (I [2,3,1,1,6,1,10,1])) (C [(.slc (some (169, 0)) 10 10 2 .exact), (.slc (some (170, 0)) 10 10 2 .exact), (.slc (some (171, 0)) 10 10 2 .exact)]) (L (I [1,7]))
def wd262 : T AObj := .n (.n (L none) (I [10,8,20,0,0,0,0,0]) (L (I [10,8,17,0,0,0,0,0]))) (I [2,5]) (.n (L (I [0,1])) (I [10,8,8,0,0,0,0,0]) .e)
def wd263 : T AObj := .n (.n (L (I [1,10])) (C [(.slc (some (187, 0)) 10 10 2 .exact)]) (L none)) (I [10,8,20,0,0,0,0,0]) (.n (L (I [2,3])) (I [1,5]) .e)
def wd264 : T AObj := .n (.n wd260 (I [10,8,5,0,0,0,0,0]) (.n wd261 none (.n (L (I [1,2])) (I [0,4]) .e))) (I [2,3,1,1,6,1,10,1]) (.n wd262 (I [2,4]) wd263)
def wd265 : T AObj := .n wd253 (I [2,3,1,1,6,1,10,1,2,5,2,1,10,2,8,2,-1,4,1,2,9,1,2,1]) (.n wd258 (C [(i 10), (.slc (some (4, 0)) 3 3 31 .exact)]) wd264)
def wd266 : T AObj := .n (L (I [0,0,0,4,8,11,15,17,20,20,20])) (I [10,0,2,0,0,0,0,0]) (L (I [2,5,2,1,10,2,8,2]))
def wd267 : T AObj := .n (L (I [2,5,2,1,10,2,8,2])) (C [(.slc (some (160, 0)) 10 10 2 .exact)]) (L (I [-1,4,1,2,4,1,2,1]))
def wd268 : T AObj := .n (.n (.n (L none) (I [2,8]) (L (I [10,8,11,0,0,0,0,0]))) (I [-1,4]) wd266) (I [2,2]) (.n wd267 (I [10,8,17,0,0,0,0,0]) (.n (L (I [2,1])) (I [2,5]) .e))
def wd269 : T AObj := .n (.n (L (I [10,8,20,0,0,0,0,0])) none (L (I [2,6]))) (I [8]) (.n (L none) (I [2,3]) (L (I [10,8,20,0,0,0,0,0])))
def wd270 : T AObj := .n (.n (L (I [2,9])) (I [0,0,0,0,0,0,0,0]) (L (I [11]))) (I [2,5,2,1,10,2,8,2]) (.n (L (I [0])) (I [-1,5]) .e)
def wd271 : T AObj := .n (.n (L (I [1,6])) (I [0,9]) (L (I [-1,5]))) (I [2,5]) (.n (L (I [0,0,0,0,0,0,0,0])) (I [2,1]) (L none))
def wd272 : T AObj := .n (.n (L none) (I [0,0,5,0,3,0,0,0,0,0]) (L (I [0,7]))) (I [-1,7]) (.n (L (I [2,3])) (I [10,8,11,0,0,0,0,0]) .e)
def wd273 : T AObj := .n (.n (L (I [-1,8])) (I [-1,4,1,2,9,1,2,1]) (L (I [11]))) (I [2,7]) (.n (L (I [10,0,2,0,0,0,0,0])) (I [0]) (L (I [9])))
def wd274 : T AObj := .n wd273 (I [2,3,1,1,6,1,10,1]) (.n (.n (L (I [0,10])) none (L (I [2,8]))) (I [17]) (.n (L (I [2,5])) (I [2,6]) .e))
def wd275 : T AObj := .n (.n wd271 (I [0]) wd272) (C [(.slc (some (18, 0)) 10 10 2 .exact), (.slc (some (21, 0)) 10 10 2 .exact), (.slc (some (24, 0)) 10 10 2 .exact)]) wd274
def wd276 : T AObj := .n (.n wd268 (I [3,3,3,1,0,0,0,0,0,0]) (.n wd269 (I [-1,4,1,2,9,1,2,1]) wd270)) (C [(i 10), (.slc (some (4, 0)) 3 3 31 .exact)]) wd275
def wd277 : T AObj := .n (.n (L (I [2,3,1,1,6,1,10,1])) (I [20]) (L (I [2,5,2,1,10,2,8,2]))) none (.n (L (I [2,3,1,1,6,1,10,1])) (I [2,5,2,1,10,2,8,2]) (L (I [2,9])))
def wd278 : T AObj := .n (.n (L (I [-1,9])) (I [0,4,4,3,4,2,3,0,0,0]) (L (I [11]))) (I [2,5,2,1,10,2,8,2]) (.n (L none) (I [10,8,8,0,0,0,0,0]) .e)
def wd279 : T AObj := .n .e (some (.map [((.agg [(i (-1)), (i 3)]), (i 4), 5), ((.agg [(i (-1)), (i 4)]), (i 4), 8), ((.agg [(i (-1)), (i 5)]), (i 3), 9), ((.agg [(i 2), (i 11)]), (i 0), 13)] 14)) .e
def wd280 : T AObj := .n (.n (L (I [1,7])) (I [2,3,1,1,6,1,10,1]) (L (I [-1,4,1,2,4,1,2,1]))) (I [0,5]) (.n wd279 (I [2,2]) (L (I [0])))
def wd281 : T AObj := .n (.n (L (I [20])) (C [(.slc (some (181, 0)) 10 10 2 .exact)]) (L (I [0,8]))) (I [2,7]) (.n (L (I [0,3])) none .e)
def wd282 : T AObj := .n (.n wd277 (I [-1,4,1,2,9,1,2,1]) wd278) (C [(.slc (some (21, 0)) 10 10 2 .exact)]) (.n wd280 none wd281)
def wd283 : T AObj := .n (.n (L (I [10,8,17,0,0,0,0,0])) (I [-1,4,1,2,9,1,2,1]) (L none)) (I [2,4]) (.n (L (C [(.slc (some (333, 0)) 10 10 2 .exact)])) none (L (I [2,5,2,1,10,2,8,2])))
def wd284 : T AObj := .n (L (I [2,5,2,1,10,2,8,2])) (C [(i 10), (.slc (some (4, 0)) 3 3 31 .exact)]) (L (I [-1,4,1,2,4,1,2,1]))
def wd285 : T AObj := .n (.n (L none) (I [20]) (L (I [0,6]))) (I [10,8,17,0,0,0,0,0]) (.n (L (I [2,5,2,1,10,2,8,2])) (I [0,3]) .e)
def wd286 : T AObj := .n (L (I [2,10])) (some (.map [((.agg [(i (-1)), (i 3)]), (i 4), 5), ((.agg [(i (-1)), (i 4)]), (i 4), 8), ((.agg [(i (-1)), (i 5)]), (i 3), 9), ((.agg [(i (-1)), (i 6)]), (i 4), 12), ((.agg [(i (-1)), (i 7)]), (i 2), 13), ((.agg [(i (-1)), (i 8)]), (i 3), 15), ((.agg [(i (-1)), (i 9)]), (i 0), 16), ((.agg [(i 2), (i 11)]), (i 0), 17), ((.agg [(i (-1)), (i 10)]), (i 0), 18)] 19)) (L none)
def wd287 : T AObj := .n wd285 (I [1,3]) (.n wd286 (I [0,8]) (.n (L (I [10,8,8,0,0,0,0,0])) (I [-1,4,1,2,9,1,2,1]) .e))
def wd288 : T AObj := .n (.n wd283 (I [0,2]) (.n wd284 none (.n (L (I [2,2])) (I [2,5,2,1,10,2,8,2]) .e))) (I [-1,4,1,2,9,1,2,1]) wd287
def wd289 : T AObj := .n wd276 (I [2,3,1,1,6,1,10,1]) (.n wd282 (C [(i 10), (.slc (some (4, 0)) 3 3 31 .exact)]) wd288)
def wd290 : T AObj := .n (.n wd217 (I [2,3,1,1,6,1,10,1]) wd241) (C [(i 10), (.slc (some (4, 0)) 3 3 31 .exact)]) (.n wd265 (I [2,5,2,1,10,2,8,2]) wd289)
set_option maxHeartbeats 0 in
theorem ws9 : (itO ft oraNone 19990).exec (a10.body.snd.snd.snd.snd.snd.snd.snd.snd.snd.fst) (.n wd111 (some (.bool false)) wd114) ⟨wd186, 327, 0⟩ = some (.normal, (.n wd191 (some (.bool false)) wd196), ⟨wd290, 476, 0⟩) := by kernel_rfl
def wd291 : T AV := .n (.n (L (some (.tup [(i 1), (i 0)]))) (J 0) .e) none (L (some (.tup [(i 15), (i 0)])))
def wd292 : T AV := .n (.n wd107 (some (.slc (some (323, 0)) 3 3 2 .exact)) (L (some (.tup [(i 7), (i 0)])))) (J 15) wd291
def wd293 : T AV := .n (.n (L (J 0)) (J 15) .e) (some (.agg [(i 10), (.slc (some (4, 0)) 3 3 31 .exact)])) (L (J 15))
def wd294 : T AV := .n (.n wd187 (J 1) (L (some (.agg [(i 10), (.slc (some (4, 0)) 3 3 31 .exact)])))) (J 0) wd293
def wd295 : T AV := .n (L (some (.tup [(i 1), (i 0)]))) (some (.agg [(i 10), (.slc (some (4, 0)) 3 3 31 .exact)])) .e
def wd296 : T AV := .n (.n (.n (L (J 0)) (J 0) .e) (some (.slc (some (475, 0)) 3 3 2 .tail)) (L (J 0))) (J 7) (.n wd295 none (L (some (.slc (some (173, 0)) 3 3 2 .exact))))
def wd297 : T AV := .n (.n wd292 (some (.slc (some (168, 0)) 3 3 40 .tail)) wd294) (some (.ptr (some (10, 0)))) (.n wd296 (J 20) (.n wd190 (J 15) wd109))
def wd298 : T AV := .n (L (some (.agg [(i 10), (.slc (some (4, 0)) 3 3 31 .exact)]))) (some (.tup [(i 15), (i 0)])) .e
def wd299 : T AV := .n (.n wd112 (J 0) (L (J 7))) (J 0) (.n wd298 none (L (some (.agg [(i 10), (.slc (some (4, 0)) 3 3 31 .exact)]))))
def wd300 : T AV := .n (.n wd192 (J 0) (L (some (.tup [(i 0), (i 20)])))) (J 20) (.n (L (J 0)) (some (.agg [(i 10), (.slc (some (9, 0)) 3 3 31 .exact)])) (L (J 0)))
def wd301 : T AV := .n (.n (L (J 1)) (some (.tup [(i 15), (i 0)])) .e) none (L (some (.tup [(i 15), (i 0)])))
def wd302 : T AV := .n (.n (.n wd194 (J 0) (L (some (.tup [(i 0), (i 20)])))) (J 0) wd301) (J 0) (.n (.n (.n (L (J 0)) (J 20) .e) none (L (J 20))) (J 0) wd113)
def wd303 : T AV := .n wd297 (some (.bool false)) (.n (.n wd299 (J 0) wd300) (some (.ptr (some (11, 0)))) wd302)
set_option maxHeartbeats 0 in
theorem ws10 : (itO ft oraNone 19989).exec (a10.body.snd.snd.snd.snd.snd.snd.snd.snd.snd.snd.fst) (.n wd191 (some (.bool false)) wd196) ⟨wd290, 476, 0⟩ = some (.normal, wd303, ⟨wd290, 476, 0⟩) := by kernel_rfl
def wd304 : T AV := .n wd107 (some (.slc (some (323, 0)) 3 3 2 .exact)) (.n (L (J 3)) (some (.tup [(i 7), (i 0)])) .e)
def wd305 : T AV := .n (.n (L (some (.slc (some (475, 0)) 3 3 2 .tail))) (some (.tup [(i 20), (i 0)])) .e) (J 3) (L (J 0))
def wd306 : T AV := .n (L (some (.agg [(i 10), (.slc (some (4, 0)) 3 3 31 .exact)]))) (some (.tup [(i 7), (i 0)])) .e
def wd307 : T AV := .n wd306 (some (.tup [(.slc (some (168, 0)) 3 3 40 .tail), (i 0)])) (L (some (.tup [(.slc (some (323, 0)) 3 3 2 .exact), (i 0)])))
def wd308 : T AV := .n (.n (.n wd304 (J 15) wd291) (some (.slc (some (168, 0)) 3 3 40 .tail)) wd294) (some (.ptr (some (10, 0)))) (.n wd296 (J 20) (.n wd305 (J 15) wd307))
def wd309 : T AV := .n (.n wd112 (J 0) (.n (L (J 0)) (J 7) .e)) (J 0) (.n wd298 none (L (some (.agg [(i 10), (.slc (some (4, 0)) 3 3 31 .exact)]))))
def wd310 : T AV := .n (.n (L (some (.tup [(i 3), (i 0)]))) (J 0) .e) (some (.agg [(i 10), (.slc (some (9, 0)) 3 3 31 .exact)])) (L (J 0))
def wd311 : T AV := .n (L (some (.tup [(i 3), (i 0)]))) (some (.agg [(i 10), (.slc (some (4, 0)) 3 3 31 .exact)])) .e
def wd312 : T AV := .n wd311 (some (.agg [(i 10), (.slc (some (4, 0)) 3 3 31 .exact)])) (L (some (.agg [(i 10), (.slc (some (4, 0)) 3 3 31 .exact)])))
def wd313 : T AV := .n (.n (.n wd194 (J 0) (L (some (.tup [(i 0), (i 20)])))) (J 0) wd301) (J 0) (.n (.n (.n (L (J 0)) (J 20) .e) (J 0) (L (J 20))) (J 0) wd312)
def wd314 : T AV := .n (.n wd309 (J 0) (.n (.n wd192 (J 0) (L (some (.tup [(i 0), (i 20)])))) (J 20) wd310)) (some (.ptr (some (11, 0)))) wd313
set_option maxHeartbeats 0 in
theorem ws11 : (itO ft oraNone 19988).exec (a10.body.snd.snd.snd.snd.snd.snd.snd.snd.snd.snd.snd.fst) wd303 ⟨wd290, 476, 0⟩ = some (.normal, (.n wd308 (some (.bool false)) wd314), ⟨wd290, 476, 0⟩) := by kernel_rfl
def wd315 : T AV := .n (.n (L (some (.tup [(i 1), (i 0)]))) (J 0) .e) (J 0) (L (some (.tup [(i 15), (i 0)])))
def wd316 : T AV := .n (L (some (.slc (some (476, 0)) 3 3 2 .exact))) (some (.agg [(i 10), (.slc (some (4, 0)) 3 3 31 .exact)])) .e
def wd317 : T AV := .n (.n wd304 (J 15) wd315) (some (.slc (some (168, 0)) 3 3 40 .tail)) (.n (.n wd187 (J 1) wd316) (J 0) wd293)
def wd318 : T AV := .n (.n (L (J 0)) (J 0) .e) (some (.slc (some (475, 0)) 3 3 2 .tail)) (.n (L (some (.tup [(i 0), (i 3)]))) (J 0) .e)
def wd319 : T AV := .n (.n (L (some (.slc (some (475, 0)) 3 3 2 .tail))) (some (.tup [(i 20), (i 0)])) .e) (J 3) (.n (L (J 0)) (J 0) .e)
def wd320 : T AV := .n (.n wd318 (J 7) (.n wd295 none (L (some (.slc (some (173, 0)) 3 3 2 .exact))))) (J 20) (.n wd319 (J 15) wd307)
def wd321 : T AV := .n (.n wd112 (J 0) (.n (L (J 0)) (J 7) .e)) (J 0) (.n wd298 (J 3) (L (some (.agg [(i 10), (.slc (some (4, 0)) 3 3 31 .exact)]))))
def wd322 : T AV := .n (.n wd192 (J 0) (.n (L (some (.tup [(i 0), (i 3)]))) (some (.tup [(i 0), (i 20)])) .e)) (J 20) wd310
def wd323 : T AV := .n (L (some (.agg [(i 10), (.slc (some (4, 0)) 3 3 31 .exact)]))) (some (.tup [(i 0), (i 20)])) .e
def wd324 : T AV := .n (.n (.n wd194 (J 0) wd323) (J 0) wd301) (J 0) (.n (.n (.n (L (J 0)) (J 20) .e) (J 0) (.n (L (J 3)) (J 20) .e)) (J 0) wd312)
def wd325 : T AV := .n (.n wd317 (some (.ptr (some (10, 0)))) wd320) (some (.bool false)) (.n (.n wd321 (J 0) wd322) (some (.ptr (some (11, 0)))) wd324)
def wd326 : T AObj := .n (.n (L none) (I [10,8,20,0,0,0,0,0]) (L (I [10,8,17,0,0,0,0,0]))) (I [2,5]) (.n (L (I [0,1])) (I [10,8,8,0,0,0,0,0]) (L (I [1,1,8])))
def wd327 : T AObj := .n (.n wd260 (I [10,8,5,0,0,0,0,0]) (.n wd261 none (.n (L (I [1,2])) (I [0,4]) .e))) (I [2,3,1,1,6,1,10,1]) (.n wd326 (I [2,4]) wd263)
def wd328 : T AObj := .n wd253 (I [2,3,1,1,6,1,10,1,2,5,2,1,10,2,8,2,-1,4,1,2,9,1,2,1]) (.n wd258 (C [(i 10), (.slc (some (4, 0)) 3 3 31 .exact)]) wd327)
def wd329 : T AObj := .n (.n wd217 (I [2,3,1,1,6,1,10,1]) wd241) (C [(i 10), (.slc (some (4, 0)) 3 3 31 .exact)]) (.n wd328 (I [2,5,2,1,10,2,8,2]) wd289)
set_option maxHeartbeats 0 in
theorem ws12 : (itO ft oraNone 19987).exec (a10.body.snd.snd.snd.snd.snd.snd.snd.snd.snd.snd.snd.snd.fst) (.n wd308 (some (.bool false)) wd314) ⟨wd290, 476, 0⟩ = some (.normal, wd325, ⟨wd329, 477, 0⟩) := by kernel_rfl
def wd330 : T AV := .n (L (some (.bool false))) (some (.tup [(.slc (some (323, 0)) 3 3 2 .exact), (i 0)])) .e
def wd331 : T AV := .n wd330 (some (.tup [(.slc (some (168, 0)) 3 3 40 .tail), (i 0)])) (L (some (.bool false)))
def wd332 : T AV := .n wd331 (some (.slc (some (323, 0)) 3 3 2 .exact)) (.n (L (J 3)) (some (.tup [(i 7), (i 0)])) (L (some (.bool false))))
def wd333 : T AV := .n (.n (L (some (.tup [(i 1), (i 0)]))) (J 0) (L (some (.bool false)))) (J 0) (.n (L (J 0)) (some (.tup [(i 15), (i 0)])) (L (some (.bool false))))
def wd334 : T AV := .n (L (some (.agg [(i 10), (.slc (some (9, 0)) 3 3 31 .exact)]))) (some (.agg [(i 10), (.slc (some (4, 0)) 3 3 31 .exact)])) (L (some (.bool false)))
def wd335 : T AV := .n (L (some (.slc (some (476, 0)) 3 3 2 .exact))) (some (.agg [(i 10), (.slc (some (4, 0)) 3 3 31 .exact)])) (L (some (.bool false)))
def wd336 : T AV := .n (.n (L (J 0)) (J 15) (L (some (.bool false)))) (some (.agg [(i 10), (.slc (some (4, 0)) 3 3 31 .exact)])) (.n (L (some (.bool false))) (J 15) (L (some (.bool false))))
def wd337 : T AV := .n (.n wd332 (J 15) wd333) (some (.slc (some (168, 0)) 3 3 40 .tail)) (.n (.n wd334 (J 1) wd335) (J 0) wd336)
def wd338 : T AV := .n (.n (L (J 0)) (J 0) (L (some (.bool false)))) (some (.slc (some (475, 0)) 3 3 2 .tail)) (.n (L (some (.tup [(i 0), (i 3)]))) (J 0) (L (some (.bool false))))
def wd339 : T AV := .n (L (some (.tup [(i 1), (i 0)]))) (some (.agg [(i 10), (.slc (some (4, 0)) 3 3 31 .exact)])) (L (some (.bool false)))
def wd340 : T AV := .n (L (some (.bool false))) (some (.slc (some (173, 0)) 3 3 2 .exact)) (L (some (.bool false)))
def wd341 : T AV := .n (L (some (.slc (some (475, 0)) 3 3 2 .tail))) (some (.tup [(i 20), (i 0)])) (L (some (.bool false)))
def wd342 : T AV := .n (L (some (.agg [(i 10), (.slc (some (4, 0)) 3 3 31 .exact)]))) (some (.tup [(i 7), (i 0)])) (L (some (.bool false)))
def wd343 : T AV := .n (L (some (.bool false))) (some (.tup [(.slc (some (323, 0)) 3 3 2 .exact), (i 0)])) (L (some (.bool false)))
def wd344 : T AV := .n (.n wd341 (J 3) (.n (L (J 0)) (J 0) (L (some (.bool false))))) (J 15) (.n wd342 (some (.tup [(.slc (some (168, 0)) 3 3 40 .tail), (i 0)])) wd343)
def wd345 : T AV := .n wd337 (some (.ptr (some (10, 0)))) (.n (.n wd338 (J 7) (.n wd339 none wd340)) (J 20) wd344)
def wd346 : T AV := .n (.n (L (some (.bool false))) (some (.slc (some (323, 0)) 3 3 2 .exact)) .e) (some (.slc (some (168, 0)) 3 3 40 .tail)) (L (some (.bool false)))
def wd347 : T AV := .n (L (some (.agg [(i 10), (.slc (some (4, 0)) 3 3 31 .exact)]))) (some (.tup [(i 15), (i 0)])) (L (some (.bool false)))
def wd348 : T AV := .n (L (some (.bool false))) (some (.agg [(i 10), (.slc (some (4, 0)) 3 3 31 .exact)])) (L (some (.bool false)))
def wd349 : T AV := .n (.n wd346 (J 0) (.n (L (J 0)) (J 7) (L (some (.bool false))))) (J 0) (.n wd347 (J 3) wd348)
def wd350 : T AV := .n (L (some (.tup [(.slc (some (475, 0)) 3 3 2 .tail), (i 0)]))) (some (.slc (some (172, 0)) 3 3 40 .exact)) (L (some (.bool false)))
def wd351 : T AV := .n (L (some (.tup [(i 0), (i 3)]))) (some (.tup [(i 0), (i 20)])) (L (some (.bool false)))
def wd352 : T AV := .n (.n (L (some (.tup [(i 3), (i 0)]))) (J 0) (L (some (.bool false)))) (some (.agg [(i 10), (.slc (some (9, 0)) 3 3 31 .exact)])) (.n (L (some (.bool false))) (J 0) (L (some (.bool false))))
def wd353 : T AV := .n (L (some (.tup [(.slc (some (475, 0)) 3 3 2 .tail), (i 0)]))) (some (.tup [(i 20), (i 0)])) (L (J 0))
def wd354 : T AV := .n (L (some (.agg [(i 10), (.slc (some (4, 0)) 3 3 31 .exact)]))) (some (.tup [(i 0), (i 20)])) (L (J 0))
def wd355 : T AV := .n (.n (L (J 1)) (some (.tup [(i 15), (i 0)])) (L (J 0))) none (.n (L (J 0)) (some (.tup [(i 15), (i 0)])) (L (J 0)))
def wd356 : T AV := .n (L (some (.tup [(i 3), (i 0)]))) (some (.agg [(i 10), (.slc (some (4, 0)) 3 3 31 .exact)])) (L (J 0))
def wd357 : T AV := .n wd356 (some (.agg [(i 10), (.slc (some (4, 0)) 3 3 31 .exact)])) (.n (L (J 0)) (some (.agg [(i 10), (.slc (some (4, 0)) 3 3 31 .exact)])) (L (J 3)))
def wd358 : T AV := .n (.n (.n (L (J 0)) (J 20) (L (J 20))) (J 0) (.n (L (J 3)) (J 20) (L (J 0)))) (J 0) wd357
def wd359 : T AV := .n (.n wd349 (J 0) (.n (.n wd350 (J 0) wd351) (J 20) wd352)) (some (.ptr (some (11, 0)))) (.n (.n (.n wd353 (J 0) wd354) (J 0) wd355) (J 0) wd358)
set_option maxHeartbeats 0 in
theorem ws13 : (itO ft oraNone 19986).exec (a10.body.snd.snd.snd.snd.snd.snd.snd.snd.snd.snd.snd.snd.snd.fst) wd325 ⟨wd329, 477, 0⟩ = some (.normal, (.n wd345 (some (.bool false)) wd359), ⟨wd329, 477, 0⟩) := by kernel_rfl
def wd360 : T AV := .n (L (some (.slc (some (323, 0)) 3 3 2 .exact))) (some (.agg [(i 10), (.slc (some (9, 0)) 3 3 31 .exact)])) .e
def wd361 : T AV := .n wd360 (some (.agg [(i 10), (.slc (some (4, 0)) 3 3 31 .exact)])) (L (some (.bool false)))
def wd362 : T AV := .n (.n wd332 (J 15) wd333) (some (.slc (some (168, 0)) 3 3 40 .tail)) (.n (.n wd361 (J 1) wd335) (J 0) wd336)
def wd363 : T AV := .n (.n (.n (L (some (.tup [(i 15), (i 0)]))) (J 0) .e) (J 0) (L (some (.bool false)))) (some (.slc (some (475, 0)) 3 3 2 .tail)) (.n (L (some (.tup [(i 0), (i 3)]))) (J 0) (L (some (.bool false))))
def wd364 : T AV := .n (.n (L (J 15)) (some (.slc (some (475, 0)) 3 3 2 .tail)) .e) (some (.tup [(i 20), (i 0)])) (L (some (.bool false)))
def wd365 : T AV := .n (.n wd364 (J 3) (.n (L (J 0)) (J 0) (L (some (.bool false))))) (J 15) (.n wd342 (some (.tup [(.slc (some (168, 0)) 3 3 40 .tail), (i 0)])) wd343)
def wd366 : T AV := .n wd362 (some (.ptr (some (10, 0)))) (.n (.n wd363 (J 7) (.n wd339 (J 15) wd340)) (J 20) wd365)
def wd367 : T AV := .n (L (some (.tup [(i 15), (i 0)]))) (some (.tup [(.slc (some (475, 0)) 3 3 2 .tail), (i 0)])) .e
def wd368 : T AV := .n (.n wd367 (some (.slc (some (172, 0)) 3 3 40 .exact)) (L (some (.bool false)))) (J 0) wd351
def wd369 : T AV := .n (L (some (.agg [(i 10), (.slc (some (4, 0)) 3 3 31 .exact)]))) (some (.tup [(.slc (some (475, 0)) 3 3 2 .tail), (i 0)])) .e
def wd370 : T AV := .n (.n (L (J 1)) (some (.tup [(i 15), (i 0)])) (L (J 0))) (J 0) (.n (L (J 0)) (some (.tup [(i 15), (i 0)])) (L (J 0)))
def wd371 : T AV := .n (.n (.n (.n (L (J 0)) (J 0) .e) (J 20) (L (J 20))) (J 0) (.n (L (J 3)) (J 20) (L (J 0)))) (J 0) wd357
def wd372 : T AV := .n (.n (.n (.n wd369 (some (.tup [(i 20), (i 0)])) (L (J 0))) (J 0) wd354) (J 0) wd370) (J 0) wd371
def wd373 : T AV := .n wd366 (some (.bool false)) (.n (.n wd349 (J 0) (.n wd368 (J 20) wd352)) (some (.ptr (some (11, 0)))) wd372)
set_option maxHeartbeats 0 in
theorem ws14 : (itO ft oraNone 19985).exec (a10.body.snd.snd.snd.snd.snd.snd.snd.snd.snd.snd.snd.snd.snd.snd.fst) (.n wd345 (some (.bool false)) wd359) ⟨wd329, 477, 0⟩ = some (.normal, wd373, ⟨wd329, 477, 0⟩) := by kernel_rfl
def wd374 : T AV := .n wd330 (some (.tup [(.slc (some (168, 0)) 3 3 40 .tail), (i 0)])) (.n (L (J 15)) (some (.bool false)) .e)
def wd375 : T AV := .n wd374 (some (.slc (some (323, 0)) 3 3 2 .exact)) (.n (.n (L (J 15)) (J 3) .e) (some (.tup [(i 7), (i 0)])) (L (some (.bool false))))
def wd376 : T AV := .n (.n (L (some (.slc (some (168, 0)) 3 3 40 .tail))) (some (.tup [(i 1), (i 0)])) .e) (J 0) (.n (L (some (.bool true))) (some (.bool false)) .e)
def wd377 : T AV := .n wd376 (J 0) (.n (.n (L (J 15)) (J 0) .e) (some (.tup [(i 15), (i 0)])) (L (some (.bool false))))
def wd378 : T AV := .n wd360 (some (.agg [(i 10), (.slc (some (4, 0)) 3 3 31 .exact)])) (.n (L (some (.slc (some (475, 0)) 3 3 2 .tail))) (some (.bool false)) .e)
def wd379 : T AV := .n (.n (L (J 7)) (some (.slc (some (476, 0)) 3 3 2 .exact)) .e) (some (.agg [(i 10), (.slc (some (4, 0)) 3 3 31 .exact)])) (L (some (.bool false)))
def wd380 : T AV := .n (.n (.n (L (J 20)) (J 0) .e) (J 15) (.n (L (some (.bool true))) (some (.bool false)) .e)) (some (.agg [(i 10), (.slc (some (4, 0)) 3 3 31 .exact)])) (.n (.n (L (J 0)) (some (.bool false)) .e) (J 15) (L (some (.bool false))))
def wd381 : T AV := .n (.n wd375 (J 15) wd377) (some (.slc (some (168, 0)) 3 3 40 .tail)) (.n (.n wd378 (J 1) wd379) (J 0) wd380)
def wd382 : T AV := .n (.n (L (some (.tup [(i 15), (i 0)]))) (J 0) .e) (J 0) (.n (L (some (.bool true))) (some (.bool false)) .e)
def wd383 : T AV := .n (.n (L (some (.bool true))) (some (.tup [(i 0), (i 3)])) .e) (J 0) (L (some (.bool false)))
def wd384 : T AV := .n (.n (L (some (.bool true))) (some (.tup [(i 1), (i 0)])) .e) (some (.agg [(i 10), (.slc (some (4, 0)) 3 3 31 .exact)])) (.n (L (some (.bool true))) (some (.bool false)) .e)
def wd385 : T AV := .n (.n (L (some (.bool true))) (some (.bool false)) .e) (some (.slc (some (173, 0)) 3 3 2 .exact)) (L (some (.bool false)))
def wd386 : T AV := .n (.n wd382 (some (.slc (some (475, 0)) 3 3 2 .tail)) wd383) (J 7) (.n wd384 (J 15) wd385)
def wd387 : T AV := .n (.n (L (J 15)) (some (.slc (some (475, 0)) 3 3 2 .tail)) .e) (some (.tup [(i 20), (i 0)])) (.n (L (some (.bool true))) (some (.bool false)) .e)
def wd388 : T AV := .n wd387 (J 3) (.n (.n (L (some (.bool true))) (J 0) .e) (J 0) (L (some (.bool false))))
def wd389 : T AV := .n (L (some (.bool true))) (some (.agg [(i 10), (.slc (some (4, 0)) 3 3 31 .exact)])) .e
def wd390 : T AV := .n wd389 (some (.tup [(i 7), (i 0)])) (.n (L (some (.bool true))) (some (.bool false)) .e)
def wd391 : T AV := .n (.n (L (some (.bool true))) (some (.bool false)) .e) (some (.tup [(.slc (some (323, 0)) 3 3 2 .exact), (i 0)])) (L (some (.bool false)))
def wd392 : T AV := .n wd388 (J 15) (.n wd390 (some (.tup [(.slc (some (168, 0)) 3 3 40 .tail), (i 0)])) wd391)
def wd393 : T AV := .n (.n (L (some (.bool false))) (some (.slc (some (323, 0)) 3 3 2 .exact)) .e) (some (.slc (some (168, 0)) 3 3 40 .tail)) (.n (L (some (.bool true))) (some (.bool false)) .e)
def wd394 : T AV := .n wd393 (J 0) (.n (.n (L (some (.bool true))) (J 0) .e) (J 7) (L (some (.bool false))))
def wd395 : T AV := .n (L (some (.slc (some (480, 0)) 3 3 40 .exact))) (some (.agg [(i 10), (.slc (some (4, 0)) 3 3 31 .exact)])) .e
def wd396 : T AV := .n (.n (L (some (.bool true))) (some (.bool false)) .e) (some (.agg [(i 10), (.slc (some (4, 0)) 3 3 31 .exact)])) (L (some (.bool false)))
def wd397 : T AV := .n (.n wd395 (some (.tup [(i 15), (i 0)])) (.n (L (J 1)) (some (.bool false)) .e)) (J 3) wd396
def wd398 : T AV := .n wd367 (some (.slc (some (172, 0)) 3 3 40 .exact)) (.n (L (some (.slc (some (481, 0)) 3 3 2 .exact))) (some (.bool false)) .e)
def wd399 : T AV := .n (.n (L (some (.bool true))) (some (.tup [(i 0), (i 3)])) .e) (some (.tup [(i 0), (i 20)])) (L (some (.bool false)))
def wd400 : T AV := .n (.n (L (some (.bool true))) (some (.tup [(i 3), (i 0)])) .e) (J 0) (.n (L (J 3)) (some (.bool false)) .e)
def wd401 : T AV := .n wd400 (some (.agg [(i 10), (.slc (some (9, 0)) 3 3 31 .exact)])) (.n (.n (L (some (.bool true))) (some (.bool false)) .e) (J 0) (L (some (.bool false))))
def wd402 : T AV := .n (.n wd369 (some (.tup [(i 20), (i 0)])) (.n (L (some (.bool true))) (J 0) .e)) (J 0) (.n wd389 (some (.tup [(i 0), (i 20)])) (L (J 0)))
def wd403 : T AV := .n (.n (L (some (.bool true))) (J 1) .e) (some (.tup [(i 15), (i 0)])) (.n (L (some (.bool true))) (J 0) .e)
def wd404 : T AV := .n wd403 (J 0) (.n (.n (L (some (.bool true))) (J 0) .e) (some (.tup [(i 15), (i 0)])) (L (J 0)))
def wd405 : T AV := .n (.n (.n (L (J 0)) (J 0) .e) (J 20) (.n (L (some (.bool true))) (J 20) .e)) (J 0) (.n (.n (L (some (.bool true))) (J 3) .e) (J 20) (L (J 0)))
def wd406 : T AV := .n (.n (L (some (.bool true))) (some (.tup [(i 3), (i 0)])) .e) (some (.agg [(i 10), (.slc (some (4, 0)) 3 3 31 .exact)])) (.n (L (some (.bool true))) (J 0) .e)
def wd407 : T AV := .n (.n (L (some (.bool true))) (J 0) .e) (some (.agg [(i 10), (.slc (some (4, 0)) 3 3 31 .exact)])) (L (J 3))
def wd408 : T AV := .n wd405 (J 0) (.n wd406 (some (.agg [(i 10), (.slc (some (4, 0)) 3 3 31 .exact)])) wd407)
def wd409 : T AV := .n (.n (.n wd394 (J 0) wd397) (J 0) (.n (.n wd398 (J 0) wd399) (J 20) wd401)) (some (.ptr (some (11, 0)))) (.n (.n wd402 (J 0) wd404) (J 0) wd408)
def wd410 : T AV := .n (.n wd381 (some (.ptr (some (10, 0)))) (.n wd386 (J 20) wd392)) (some (.bool true)) wd409
def wd411 : T AObj := .n (.n (L (I [10,8,20,0,0,0,0,0])) (I [0,0,0,4,8,11,15,17,20,20,20]) (L (I [2,7]))) none (.n (L (I [1,1])) (I [2,4]) (L (I [0,4,4,3,4,2,3,0,0,0])))
def wd412 : T AObj := .n (.n wd197 (I [10,0,2,0,0,0,0,0]) wd411) (I [0,0,0,0,0,0,0,0]) (.n wd199 (I [2,3]) wd200)
def wd413 : T AObj := .n (.n wd412 (I [2,5,2,1,10,2,8,2]) (.n wd204 none (.n wd205 (I [0]) wd206))) (I [-1,4,1,2,9,1,2,1]) (.n wd211 (C [(i 10), (.slc (some (9, 0)) 3 3 31 .exact)]) wd216)
def wd414 : T AObj := .n (.n (L (I [0,8])) (C [(.slc (some (160, 0)) 10 10 2 .exact)]) (L (I [1,6]))) none (.n (L (I [-1,4,1,2,4,1,2,1])) (I [1,3]) (L (I [0,0,9])))
def wd415 : T AObj := .n (.n wd218 (I [0,1]) wd414) (C [(i 10), (.slc (some (4, 0)) 3 3 31 .exact), (.slc (some (26, 0)) 3 3 40 .tail), (.slc (some (157, 0)) 11 11 64 .tail), (.slc (some (159, 0)) 11 11 2 .tail), (i 10), (i 8), (i 20), (i 0), (i 0), (i 0), (i 0), (i 0)]) (.n wd220 (I [1,2]) wd221)
def wd416 : T AObj := .n wd237 (I [-1,6]) (.n (L (I [2,2])) (I [2,3,1,1,6,1,10,1]) (L (I [3,3,3,1,0,0,0,0,0,0])))
def wd417 : T AObj := .n wd416 (I [2,5,2,1,10,2,8,2]) (.n wd238 (I [2,3,1,1,6,1,10,1]) (.n (L (I [-1,4])) (I [2,7]) .e))
def wd418 : T AObj := .n wd234 (C [(i 10), (.slc (some (4, 0)) 3 3 31 .exact)]) (.n (.n wd235 (I [2,3,1,1,6,1,10,1]) wd236) (I [2,5,2,1,10,2,8,2]) wd417)
def wd419 : T AObj := .n (.n wd415 (I [2,3,1,1,6,1,10,1,2,5,2,1,10,2,8,2,-1,4,1,2,4,1,2,1]) wd228) (C [(i 10), (.slc (some (9, 0)) 3 3 31 .exact)]) wd418
def wd420 : T AObj := .n .e (C [(.slc (some (477, 0)) 10 10 2 .exact), (.slc (some (478, 0)) 10 10 2 .exact), (.slc (some (479, 0)) 10 10 2 .exact)]) .e
def wd421 : T AObj := .n (.n (L (I [2,3,1,1,6,1,10,1])) (I [3,3,3,1,0,0,0,0,0,0]) (L (I [2,5,2,1,10,2,8,2]))) (I [11]) (.n (L (I [2,3])) (I [2,5,2,1,10,2,8,2]) wd420)
def wd422 : T AObj := .n (.n wd242 (I [2,3,1,1,6,1,10,1]) wd421) (I [0]) (.n wd244 (I [2,5,2,1,10,2,8,2]) wd246)
def wd423 : T AObj := .n wd422 (I [-1,4,1,2,4,1,2,1]) (.n wd250 (I [0,4,4,3,4,2,3,0,0,0]) (.n wd251 none wd252))
def wd424 : T AObj := .n wd423 (I [2,3,1,1,6,1,10,1,2,5,2,1,10,2,8,2,-1,4,1,2,9,1,2,1]) (.n wd258 (C [(i 10), (.slc (some (4, 0)) 3 3 31 .exact)]) wd327)
def wd425 : T AObj := .n (.n (L none) (I [20]) (L (I [0,6]))) (I [10,8,17,0,0,0,0,0]) (.n (L (I [2,5,2,1,10,2,8,2])) (I [0,3]) (L (I [0,0,5,0,3,0,0,0,0,0])))
def wd426 : T AObj := .n wd425 (I [1,3]) (.n wd286 (I [0,8]) (.n (L (I [10,8,8,0,0,0,0,0])) (I [-1,4,1,2,9,1,2,1]) .e))
def wd427 : T AObj := .n (.n wd283 (I [0,2]) (.n wd284 none (.n (L (I [2,2])) (I [2,5,2,1,10,2,8,2]) .e))) (I [-1,4,1,2,9,1,2,1]) wd426
def wd428 : T AObj := .n wd276 (I [2,3,1,1,6,1,10,1]) (.n wd282 (C [(i 10), (.slc (some (4, 0)) 3 3 31 .exact)]) wd427)
def wd429 : T AObj := .n (.n wd413 (I [2,3,1,1,6,1,10,1]) wd419) (C [(i 10), (.slc (some (4, 0)) 3 3 31 .exact)]) (.n wd424 (I [2,5,2,1,10,2,8,2]) wd428)
set_option maxHeartbeats 0 in
theorem ws15 : (itO ft oraNone 19984).exec (a10.body.snd.snd.snd.snd.snd.snd.snd.snd.snd.snd.snd.snd.snd.snd.snd.fst) wd373 ⟨wd329, 477, 0⟩ = some (.normal, wd410, ⟨wd429, 482, 0⟩) := by kernel_rfl
set_option maxHeartbeats 0 in
theorem ws16 : (itO ft oraNone 19984).exec (a10.body.snd.snd.snd.snd.snd.snd.snd.snd.snd.snd.snd.snd.snd.snd.snd.snd) wd410 ⟨wd429, 482, 0⟩ = some (.ret, wd410, ⟨wd429, 482, 0⟩) := by kernel_rfl
theorem wall : (itO ft oraNone 20000).exec a10.body .e ⟨.e, 0, 0⟩ = some (.ret, wd410, ⟨wd429, 482, 0⟩) :=
  exec_seq rfl ws0 (exec_seq rfl ws1 (exec_seq rfl ws2 (exec_seq rfl ws3 (exec_seq rfl ws4 (exec_seq rfl ws5 (exec_seq rfl ws6 (exec_seq rfl ws7 (exec_seq rfl ws8 (exec_seq rfl ws9 (exec_seq rfl ws10 (exec_seq rfl ws11 (exec_seq rfl ws12 (exec_seq rfl ws13 (exec_seq rfl ws14 (exec_seq rfl ws15 (ws16))))))))))))))))
theorem wval : callF (itO ft oraNone 20000) a10 [] ⟨.e, 0, 0⟩ = some (.bool true, ⟨.e, 0, 0⟩) :=
  callF_pure rfl rfl wall (fun j e => by cases e) (by kernel_rfl) rfl
theorem wget : ft.get 10 = some a10 := by kernel_rfl
/-- The closed part of each law, answered ahead. -/
def oraW : Ora := oraOf 10 true
theorem oraW_ok : OraOK Try.prog oraW := oraOf_ok mixed table oraNone_ok wget wval rfl
end Go.AM
