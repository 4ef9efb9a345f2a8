/- The run of function 16, statement by statement: reckoned by the kernel. Printed by closed2.py. -/
import Derived.Test.YtbapopkhebnbpaaWk
namespace Go.AM
open Go Go.Proofs Sh
set_option maxRecDepth 1000000
set_option maxHeartbeats 0 in
theorem ks0 : (itO ft oraW 19999).exec (a16.body.fst) .e ⟨.e, 0, 0⟩ = some (.normal, (L (some (.bool false))), ⟨.e, 0, 0⟩) := by kernel_rfl
def kd0 : T AV := .n .e (some (.agg [(i 4), (i 3), (.slc (some (3, 0)) 2 2 3 .exact), (.slc none 0 0 0 .exact)])) .e
def kd1 : T AV := .n (.n .e none (.n kd0 none .e)) none (.n (.n (L (some (.slc (some (1, 0)) 1 1 3 .exact))) none .e) none .e)
def kd2 : T AV := .n (.n (.n (L (some (.slc (some (0, 0)) 1 1 3 .exact))) none .e) none .e) none (.n (.n (L (some (.slc (some (3, 0)) 2 2 3 .exact))) none .e) none .e)
def kd3 : T AV := .n .e (some (.agg [(i 4), (i 3), (.slc (some (0, 0)) 1 1 3 .exact), (.slc (some (1, 0)) 1 1 3 .exact)])) .e
def kd4 : T AV := .n (.n (.n (L (some (.slc (some (0, 0)) 1 1 3 .exact))) none .e) none .e) none (.n (.n kd3 none .e) none .e)
def kd5 : T AV := .n (.n (.n (L (some (.slc (some (1, 0)) 1 1 3 .exact))) none .e) none .e) none (.n (.n (L (some (.slc (some (3, 0)) 2 2 3 .exact))) none .e) none .e)
def kd6 : T AV := .n (.n kd1 (some (.ptr (some (5, 0)))) kd2) (some (.bool false)) (.n kd4 (some (.ptr (some (6, 0)))) kd5)
def kd7 : T AObj := .n .e (C [(i 4), (i 3), (.slc (some (0, 0)) 1 1 3 .exact), (.slc (some (1, 0)) 1 1 3 .exact)]) .e
def kd8 : T AObj := .n (L (C [(i 4), (i 3), (.slc (some (3, 0)) 2 2 3 .exact), (.slc none 0 0 0 .exact)])) (C [(i 4), (i 3), (.slc (some (0, 0)) 1 1 3 .exact), (.slc (some (1, 0)) 1 1 3 .exact)]) (L (C [(i 4), (i 3), (.slc (some (3, 0)) 2 2 3 .exact), (.slc none 0 0 0 .exact)]))
set_option maxHeartbeats 0 in
theorem ks1 : (itO ft oraW 19998).exec (a16.body.snd.fst) (L (some (.bool false))) ⟨.e, 0, 0⟩ = some (.normal, kd6, ⟨(.n (.n (L (I [5,7])) (I [6]) kd7) (I [5]) kd8), 7, 0⟩) := by kernel_rfl
def kd9 : T AV := .n (.n (L (some (.slc (some (1, 0)) 1 1 3 .exact))) none .e) none (.n (L (some (.slc (some (7, 0)) 1 1 3 .exact))) none .e)
def kd10 : T AV := .n (.n (L (some (.slc (some (3, 0)) 2 2 3 .exact))) none .e) none (.n (L (J 4)) none .e)
def kd11 : T AV := .n (.n (.n (L (some (.slc (some (0, 0)) 1 1 3 .exact))) none .e) none (.n kd3 none .e)) none kd10
def kd12 : T AV := .n (.n (L (some (.slc (some (0, 0)) 1 1 3 .exact))) none .e) none (.n (L (some (.tup [(i 4), (i 0)]))) none .e)
def kd13 : T AV := .n (.n (L (some (.slc (some (3, 0)) 2 2 3 .exact))) none .e) none (.n (L (J 0)) none .e)
def kd14 : T AV := .n (.n kd12 (J 0) (.n (.n kd3 none .e) none (.n (L (some (.tup [(i 4), (i 0)]))) none .e))) (some (.ptr (some (6, 0)))) (.n kd9 none kd13)
def kd15 : T AV := .n (.n (.n (.n .e none (.n kd0 none .e)) (J 4) kd9) (some (.ptr (some (5, 0)))) kd11) (some (.bool false)) kd14
set_option maxHeartbeats 0 in
theorem ks2 : (itO ft oraW 19997).exec (a16.body.snd.snd.fst) kd6 ⟨(.n (.n (L (I [5,7])) (I [6]) kd7) (I [5]) kd8), 7, 0⟩ = some (.normal, kd15, ⟨(.n (.n (.n (L (I [5])) (I [5,7]) .e) (I [6]) kd7) (I [5]) kd8), 8, 0⟩) := by kernel_rfl
def kd16 : T AV := .n (.n (L (some (.slc (some (1, 0)) 1 1 3 .exact))) none (L (some (.tup [(i 0), (i 19)])))) none (.n (L (some (.slc (some (7, 0)) 1 1 3 .exact))) none .e)
def kd17 : T AV := .n (L (some (.slc (some (0, 0)) 1 1 3 .exact))) none (L (some (.slc (some (8, 0)) 1 1 3 .exact)))
def kd18 : T AV := .n (.n (L (some (.slc (some (3, 0)) 2 2 3 .exact))) none (L (J 19))) none (.n (L (J 4)) none .e)
def kd19 : T AV := .n (.n (.n (.n .e none (L (some (.tup [(i 0), (i 19)])))) none (.n kd0 none .e)) (J 4) kd16) (some (.ptr (some (5, 0)))) (.n (.n kd17 none (.n kd3 none .e)) (J 0) kd18)
def kd20 : T AV := .n (.n (L (some (.slc (some (0, 0)) 1 1 3 .exact))) none kd3) none (.n (L (some (.tup [(i 4), (i 0)]))) none .e)
def kd21 : T AV := .n kd20 (J 0) (.n (.n kd3 none (L (J 0))) none (.n (L (some (.tup [(i 4), (i 0)]))) none .e))
def kd22 : T AV := .n (L (some (.slc (some (1, 0)) 1 1 3 .exact))) none (L (some (.slc (some (8, 0)) 1 1 3 .exact)))
def kd23 : T AV := .n kd21 (some (.ptr (some (6, 0)))) (.n (.n kd22 none (.n (L (some (.slc (some (7, 0)) 1 1 3 .exact))) none .e)) (J 19) kd13)
def kd24 : T AObj := .n (L (I [4])) (C [(i 4), (i 3), (.slc (some (3, 0)) 2 2 3 .exact), (.slc none 0 0 0 .exact)]) .e
def kd25 : T AObj := .n kd24 (C [(i 4), (i 3), (.slc (some (0, 0)) 1 1 3 .exact), (.slc (some (1, 0)) 1 1 3 .exact)]) (L (C [(i 4), (i 3), (.slc (some (3, 0)) 2 2 3 .exact), (.slc none 0 0 0 .exact)]))
set_option maxHeartbeats 0 in
theorem ks3 : (itO ft oraW 19996).exec (a16.body.snd.snd.snd.fst) kd15 ⟨(.n (.n (.n (L (I [5])) (I [5,7]) .e) (I [6]) kd7) (I [5]) kd8), 8, 0⟩ = some (.normal, (.n kd19 (some (.bool false)) kd23), ⟨(.n (.n (.n (L (I [5])) (I [5,7]) .e) (I [6]) kd7) (I [5]) kd25), 9, 0⟩) := by kernel_rfl
def kd26 : T AV := .n (.n (.n .e none (L (some (.tup [(i 0), (i 19)])))) (J 4) (.n kd0 none kd3)) (J 4) kd16
def kd27 : T AV := .n kd26 (some (.ptr (some (5, 0)))) (.n (.n kd17 none (.n kd3 none (L (J 4)))) (J 0) kd18)
def kd28 : T AV := .n (.n (L (some (.slc (some (0, 0)) 1 1 3 .exact))) none kd3) (J 0) (.n (L (some (.tup [(i 4), (i 0)]))) none (L (some (.tup [(i 4), (i 0)]))))
def kd29 : T AV := .n kd28 (J 0) (.n (.n kd3 none (L (J 0))) none (.n (L (some (.tup [(i 4), (i 0)]))) none .e))
def kd30 : T AV := .n (.n (L (some (.slc (some (3, 0)) 2 2 3 .exact))) none (L (some (.tup [(i 4), (i 0)])))) none (.n (L (J 0)) none .e)
def kd31 : T AV := .n (.n kd22 none (.n (L (some (.slc (some (7, 0)) 1 1 3 .exact))) none (L (J 0)))) (J 19) kd30
set_option maxHeartbeats 0 in
theorem ks4 : (itO ft oraW 19995).exec (a16.body.snd.snd.snd.snd.fst) (.n kd19 (some (.bool false)) kd23) ⟨(.n (.n (.n (L (I [5])) (I [5,7]) .e) (I [6]) kd7) (I [5]) kd25), 9, 0⟩ = some (.normal, (.n kd27 (some (.bool false)) (.n kd29 (some (.ptr (some (6, 0)))) kd31)), ⟨(.n (.n (.n (L (I [5])) (I [5,7]) .e) (I [6]) kd7) (I [5]) kd25), 9, 0⟩) := by kernel_rfl
def kd32 : T AV := .n (.n (.n (L (J 0)) none .e) none (L (some (.tup [(i 0), (i 19)])))) (J 4) (.n kd0 none kd3)
def kd33 : T AV := .n (.n (L (some (.slc (some (1, 0)) 1 1 3 .exact))) none (L (some (.tup [(i 0), (i 19)])))) none (.n (L (some (.slc (some (7, 0)) 1 1 3 .exact))) none (L (some (.tup [(i 2), (i 0)]))))
def kd34 : T AV := .n (.n (L (some (.slc (some (3, 0)) 2 2 3 .exact))) none (L (J 19))) none (.n (L (J 4)) none (L (some (.tup [(i 2), (i 0)]))))
def kd35 : T AV := .n (.n kd32 (J 4) kd33) (some (.ptr (some (5, 0)))) (.n (.n kd17 (J 2) (.n kd3 none (L (J 4)))) (J 0) kd34)
def kd36 : T AV := .n kd28 (J 0) (.n (.n kd3 none (L (J 0))) none (.n (L (some (.tup [(i 4), (i 0)]))) none kd0))
def kd37 : T AV := .n (.n (L (some (.slc (some (3, 0)) 2 2 3 .exact))) none (L (some (.tup [(i 4), (i 0)])))) none (.n (L (J 0)) none (L (J 2)))
def kd38 : T AV := .n (.n kd22 (J 0) (.n (L (some (.slc (some (7, 0)) 1 1 3 .exact))) none (L (J 0)))) (J 19) kd37
set_option maxHeartbeats 0 in
theorem ks5 : (itO ft oraW 19994).exec (a16.body.snd.snd.snd.snd.snd.fst) (.n kd27 (some (.bool false)) (.n kd29 (some (.ptr (some (6, 0)))) kd31)) ⟨(.n (.n (.n (L (I [5])) (I [5,7]) .e) (I [6]) kd7) (I [5]) kd25), 9, 0⟩ = some (.normal, (.n kd35 (some (.bool false)) (.n kd36 (some (.ptr (some (6, 0)))) kd38)), ⟨(.n (.n (.n (L (I [5])) (I [5,7]) .e) (I [6]) kd7) (I [5]) kd25), 9, 0⟩) := by kernel_rfl
def kd39 : T AV := .n (.n (L (J 0)) (some (.slc (some (1, 0)) 1 1 3 .exact)) .e) none (L (some (.tup [(i 0), (i 19)])))
def kd40 : T AV := .n kd39 (J 0) (.n (L (some (.slc (some (7, 0)) 1 1 3 .exact))) none (L (some (.tup [(i 2), (i 0)]))))
def kd41 : T AV := .n (.n kd0 (some (.slc (some (0, 0)) 1 1 3 .exact)) .e) none (L (some (.slc (some (8, 0)) 1 1 3 .exact)))
def kd42 : T AV := .n (.n kd32 (J 4) kd40) (some (.ptr (some (5, 0)))) (.n (.n kd41 (J 2) (.n kd3 none (L (J 4)))) (J 0) kd34)
def kd43 : T AV := .n (.n (L (some (.tup [(i 0), (i 0)]))) (some (.slc (some (0, 0)) 1 1 3 .exact)) .e) none kd3
def kd44 : T AV := .n kd43 (J 0) (.n (L (some (.tup [(i 4), (i 0)]))) none (L (some (.tup [(i 4), (i 0)]))))
def kd45 : T AV := .n (L (J 0)) (some (.agg [(i 4), (i 3), (.slc (some (0, 0)) 1 1 3 .exact), (.slc (some (1, 0)) 1 1 3 .exact)])) .e
def kd46 : T AV := .n kd44 (J 0) (.n (.n kd45 none (L (J 0))) (J 0) (.n (L (some (.tup [(i 4), (i 0)]))) none kd0))
def kd47 : T AV := .n (.n (L (some (.tup [(i 0), (i 0)]))) (some (.slc (some (1, 0)) 1 1 3 .exact)) .e) none (L (some (.slc (some (8, 0)) 1 1 3 .exact)))
def kd48 : T AV := .n (.n kd47 (J 0) (.n (L (some (.slc (some (7, 0)) 1 1 3 .exact))) none (L (J 0)))) (J 19) kd37
set_option maxHeartbeats 0 in
theorem ks6 : (itO ft oraW 19993).exec (a16.body.snd.snd.snd.snd.snd.snd.fst) (.n kd35 (some (.bool false)) (.n kd36 (some (.ptr (some (6, 0)))) kd38)) ⟨(.n (.n (.n (L (I [5])) (I [5,7]) .e) (I [6]) kd7) (I [5]) kd25), 9, 0⟩ = some (.normal, (.n kd42 (some (.bool false)) (.n kd46 (some (.ptr (some (6, 0)))) kd48)), ⟨(.n (.n (.n (L (I [5])) (I [5,7]) .e) (I [6]) kd7) (I [5]) kd25), 9, 0⟩) := by kernel_rfl
def kd49 : T AV := .n (L (some (.slc (some (9, 0)) 2 2 3 .exact))) (some (.agg [(i 4), (i 3), (.slc (some (3, 0)) 2 2 3 .exact), (.slc none 0 0 0 .exact)])) .e
def kd50 : T AV := .n (.n (.n (L (J 0)) none .e) none (L (some (.tup [(i 0), (i 19)])))) (J 4) (.n kd49 none kd3)
def kd51 : T AV := .n (.n (L (J 1)) (some (.slc (some (7, 0)) 1 1 3 .exact)) .e) none (L (some (.tup [(i 2), (i 0)])))
def kd52 : T AV := .n (L (some (.slc (some (10, 0)) 1 1 81 .exact))) (some (.agg [(i 4), (i 3), (.slc (some (0, 0)) 1 1 3 .exact), (.slc (some (1, 0)) 1 1 3 .exact)])) .e
def kd53 : T AV := .n (.n (L (some (.tup [(i 1), (i 0)]))) (some (.slc (some (3, 0)) 2 2 3 .exact)) .e) none (L (J 19))
def kd54 : T AV := .n (.n kd41 (J 2) (.n kd52 none (L (J 4)))) (J 0) (.n kd53 (J 1) (.n (L (J 4)) none (L (some (.tup [(i 2), (i 0)])))))
def kd55 : T AV := .n (L (some (.agg [(.slc (some (9, 0)) 2 2 3 .exact), (i 1)]))) (some (.tup [(i 4), (i 0)])) .e
def kd56 : T AV := .n (.n kd45 none (L (J 0))) (J 0) (.n (.n (L (J 0)) (some (.tup [(i 4), (i 0)])) .e) none kd0)
def kd57 : T AV := .n (.n (L (some (.tup [(i 1), (i 0)]))) (some (.slc (some (7, 0)) 1 1 3 .exact)) .e) none (L (J 0))
def kd58 : T AV := .n (.n kd3 (some (.slc (some (3, 0)) 2 2 3 .exact)) .e) none (L (some (.tup [(i 4), (i 0)])))
def kd59 : T AV := .n (.n (.n kd43 (J 0) (.n kd55 none (L (some (.tup [(i 4), (i 0)]))))) (J 0) kd56) (some (.ptr (some (6, 0)))) (.n (.n kd47 (J 0) kd57) (J 19) (.n kd58 (J 0) (.n (L (J 0)) none (L (J 2)))))
def kd60 : T AV := .n (.n (.n kd50 (J 4) (.n kd39 (J 0) kd51)) (some (.ptr (some (5, 0)))) kd54) (some (.bool false)) kd59
def kd61 : T AObj := .n (L (I [5,9])) (C [(i 4), (i 3), (.slc (some (0, 0)) 1 1 3 .exact), (.slc (some (1, 0)) 1 1 3 .exact)]) .e
def kd62 : T AObj := .n (.n (L (I [5])) (I [5,7]) (L (C [(.slc (some (9, 0)) 2 2 3 .exact), (i 1)]))) (I [6]) kd61
def kd63 : T AObj := .n (L (C [(.slc (some (9, 0)) 2 2 3 .exact), (i 1)])) (C [(i 4), (i 3), (.slc (some (3, 0)) 2 2 3 .exact), (.slc none 0 0 0 .exact)]) .e
def kd64 : T AObj := .n kd24 (C [(i 4), (i 3), (.slc (some (0, 0)) 1 1 3 .exact), (.slc (some (1, 0)) 1 1 3 .exact)]) kd63
set_option maxHeartbeats 0 in
theorem ks7 : (itO ft oraW 19992).exec (a16.body.snd.snd.snd.snd.snd.snd.snd.fst) (.n kd42 (some (.bool false)) (.n kd46 (some (.ptr (some (6, 0)))) kd48)) ⟨(.n (.n (.n (L (I [5])) (I [5,7]) .e) (I [6]) kd7) (I [5]) kd25), 9, 0⟩ = some (.normal, kd60, ⟨(.n kd62 (I [5]) kd64), 12, 0⟩) := by kernel_rfl
def kd65 : T AV := .n (.n (L (J 0)) none .e) (J 0) (.n (L (some (.slc (some (12, 0)) 2 2 3 .exact))) (some (.tup [(i 0), (i 19)])) .e)
def kd66 : T AV := .n (.n (L (J 0)) (some (.slc (some (1, 0)) 1 1 3 .exact)) .e) none (.n (L (J 0)) (some (.tup [(i 0), (i 19)])) .e)
def kd67 : T AV := .n (L (some (.slc (some (13, 0)) 1 1 81 .exact))) (some (.slc (some (8, 0)) 1 1 3 .exact)) .e
def kd68 : T AV := .n (.n (.n kd0 (some (.slc (some (0, 0)) 1 1 3 .exact)) .e) none kd67) (J 2) (.n kd52 none (L (J 4)))
def kd69 : T AV := .n (.n (L (some (.tup [(i 0), (i 16)]))) (J 4) .e) none (L (some (.tup [(i 2), (i 0)])))
def kd70 : T AV := .n (.n (.n kd65 (J 4) (.n kd49 none kd3)) (J 4) (.n kd66 (J 0) kd51)) (some (.ptr (some (5, 0)))) (.n kd68 (J 0) (.n kd53 (J 1) kd69))
def kd71 : T AV := .n (L (some (.agg [(.slc (some (12, 0)) 2 2 3 .exact), (i 0)]))) (some (.agg [(i 4), (i 3), (.slc (some (0, 0)) 1 1 3 .exact), (.slc (some (1, 0)) 1 1 3 .exact)])) .e
def kd72 : T AV := .n (.n (L (some (.tup [(i 0), (i 0)]))) (some (.slc (some (0, 0)) 1 1 3 .exact)) .e) (J 16) kd71
def kd73 : T AV := .n (.n kd45 none (.n (L (J 16)) (J 0) .e)) (J 0) (.n (.n (L (J 0)) (some (.tup [(i 4), (i 0)])) .e) none kd0)
def kd74 : T AV := .n (.n (L (some (.tup [(i 0), (i 0)]))) (some (.slc (some (1, 0)) 1 1 3 .exact)) .e) none (.n (L (some (.tup [(i 0), (i 16)]))) (some (.slc (some (8, 0)) 1 1 3 .exact)) .e)
def kd75 : T AV := .n (.n (.n kd72 (J 0) (.n kd55 none (L (some (.tup [(i 4), (i 0)]))))) (J 0) kd73) (some (.ptr (some (6, 0)))) (.n (.n kd74 (J 0) kd57) (J 19) (.n kd58 (J 0) (.n (.n kd3 (J 0) .e) none (L (J 2)))))
def kd76 : T AObj := .n (L (I [5,9])) (C [(i 4), (i 3), (.slc (some (0, 0)) 1 1 3 .exact), (.slc (some (1, 0)) 1 1 3 .exact)]) (L (C [(.slc (some (12, 0)) 2 2 3 .exact), (i 0)]))
def kd77 : T AObj := .n (.n (L (I [5])) (I [5,7]) (L (C [(.slc (some (9, 0)) 2 2 3 .exact), (i 1)]))) (I [6]) kd76
def kd78 : T AObj := .n (L (I [4])) (C [(i 4), (i 3), (.slc (some (3, 0)) 2 2 3 .exact), (.slc none 0 0 0 .exact)]) (L (I [5,9]))
def kd79 : T AObj := .n (L (C [(.slc (some (9, 0)) 2 2 3 .exact), (i 1)])) (C [(i 4), (i 3), (.slc (some (3, 0)) 2 2 3 .exact), (.slc none 0 0 0 .exact)]) (L (C [(.slc (some (12, 0)) 2 2 3 .exact), (i 0)]))
def kd80 : T AObj := .n kd78 (C [(i 4), (i 3), (.slc (some (0, 0)) 1 1 3 .exact), (.slc (some (1, 0)) 1 1 3 .exact)]) kd79
set_option maxHeartbeats 0 in
theorem ks8 : (itO ft oraW 19991).exec (a16.body.snd.snd.snd.snd.snd.snd.snd.snd.fst) kd60 ⟨(.n kd62 (I [5]) kd64), 12, 0⟩ = some (.normal, (.n kd70 (some (.bool false)) kd75), ⟨(.n kd77 (I [5]) kd80), 15, 0⟩) := by kernel_rfl
def kd81 : T AV := .n (L (some (.agg [(i 1), (i 1), (.str [78, 69, 78, 69, 83, 83, 87, 87])]))) (some (.agg [(i 4), (i 3), (.slc (some (0, 0)) 1 1 3 .exact), (.slc (some (1, 0)) 1 1 3 .exact)])) .e
def kd82 : T AV := .n (.n (L (J 0)) (some (.slc (some (1, 0)) 1 1 3 .exact)) .e) (J 0) (.n (L (J 0)) (some (.tup [(i 0), (i 19)])) .e)
def kd83 : T AV := .n (.n (L (J 1)) (some (.slc (some (7, 0)) 1 1 3 .exact)) .e) none (.n (L (J 0)) (some (.tup [(i 2), (i 0)])) .e)
def kd84 : T AV := .n (.n (.n kd0 (some (.slc (some (0, 0)) 1 1 3 .exact)) .e) (J 3) kd67) (J 2) (.n kd52 none (.n (L (J 3)) (J 4) .e))
def kd85 : T AV := .n (.n (L (some (.tup [(i 1), (i 0)]))) (some (.slc (some (3, 0)) 2 2 3 .exact)) .e) none (.n (L (some (.tup [(i 3), (.bool false), (i 0)]))) (J 19) .e)
def kd86 : T AV := .n (.n (.n kd65 (J 4) (.n kd49 none kd81)) (J 4) (.n kd82 (J 0) kd83)) (some (.ptr (some (5, 0)))) (.n kd84 (J 0) (.n kd85 (J 1) kd69))
def kd87 : T AV := .n kd55 none (.n (L (some (.tup [(i 3), (.bool false), (i 0)]))) (some (.tup [(i 4), (i 0)])) .e)
def kd88 : T AV := .n (.n (L (some (.tup [(i 0), (i 0)]))) (some (.slc (some (1, 0)) 1 1 3 .exact)) .e) (some (.bool false)) (.n (L (some (.tup [(i 0), (i 16)]))) (some (.slc (some (8, 0)) 1 1 3 .exact)) .e)
def kd89 : T AV := .n (.n (L (some (.tup [(i 1), (i 0)]))) (some (.slc (some (7, 0)) 1 1 3 .exact)) .e) none (.n (L (some (.bool false))) (J 0) .e)
def kd90 : T AV := .n (L (some (.agg [(i 1), (i 1), (.str [69, 69, 78, 78, 87, 83, 87, 83])]))) (some (.tup [(i 4), (i 0)])) .e
def kd91 : T AV := .n (.n (.n kd3 (some (.slc (some (3, 0)) 2 2 3 .exact)) .e) none kd90) (J 0) (.n (.n kd3 (J 0) .e) none (L (J 2)))
def kd92 : T AV := .n (.n (.n kd72 (J 0) kd87) (J 0) kd73) (some (.ptr (some (6, 0)))) (.n (.n kd88 (J 0) kd89) (J 19) kd91)
def kd93 : T AObj := .n (.n (L (I [1,2])) (C [(i 1), (i 1), (.str [69, 69, 78, 78, 87, 83, 87, 83])]) .e) (I [5]) (L (I [3,2]))
def kd94 : T AObj := .n (.n (L (C [(i 1), (i 1), (.str [78, 69, 78, 69, 83, 83, 87, 87])])) (I [2,1]) .e) (C [(.slc (some (9, 0)) 2 2 3 .exact), (i 1)]) (L (I [2,3]))
def kd95 : T AObj := .n (.n (L (I [1,1])) (C [(i 1), (i 1), (.str [69, 69, 78, 78, 87, 83, 87, 83])]) .e) (I [5,9]) (L (I [3,3]))
def kd96 : T AObj := .n kd95 (C [(i 4), (i 3), (.slc (some (0, 0)) 1 1 3 .exact), (.slc (some (1, 0)) 1 1 3 .exact)]) (.n (L (I [3,1])) (C [(.slc (some (12, 0)) 2 2 3 .exact), (i 0)]) (L (I [2,2])))
def kd97 : T AObj := .n (.n (L none) (C [(i 1), (i 1), (.str [78, 69, 78, 69, 83, 83, 87, 87])]) .e) (I [4]) (L none)
def kd98 : T AObj := .n kd97 (C [(i 4), (i 3), (.slc (some (3, 0)) 2 2 3 .exact), (.slc none 0 0 0 .exact)]) (.n (L none) (I [5,9]) (L none))
def kd99 : T AObj := .n (.n (L (I [1,1,2,1,3,1,3,2,3,3,2,3,2,2,1,2,1,1])) (I [1,1]) .e) (C [(.slc (some (9, 0)) 2 2 3 .exact), (i 1)]) (L none)
def kd100 : T AObj := .n kd99 (C [(i 4), (i 3), (.slc (some (3, 0)) 2 2 3 .exact), (.slc none 0 0 0 .exact)]) (.n (L none) (C [(.slc (some (12, 0)) 2 2 3 .exact), (i 0)]) (L none))
def kd101 : T AObj := .n kd98 (C [(i 4), (i 3), (.slc (some (0, 0)) 1 1 3 .exact), (.slc (some (1, 0)) 1 1 3 .exact)]) kd100
set_option maxHeartbeats 0 in
theorem ks9 : (itO ft oraW 19990).exec (a16.body.snd.snd.snd.snd.snd.snd.snd.snd.snd.fst) (.n kd70 (some (.bool false)) kd75) ⟨(.n kd77 (I [5]) kd80), 15, 0⟩ = some (.normal, (.n kd86 (some (.bool false)) kd92), ⟨(.n (.n (.n kd93 (I [5,7]) kd94) (I [6]) kd96) (I [5]) kd101), 36, 0⟩) := by kernel_rfl
def kd102 : T AV := .n (.n (L (J 0)) none (L (J 6))) (J 0) (.n (L (some (.slc (some (12, 0)) 2 2 3 .exact))) (some (.tup [(i 0), (i 19)])) .e)
def kd103 : T AV := .n (.n (L (J 0)) (some (.slc (some (1, 0)) 1 1 3 .exact)) (L (J 8))) (J 0) (.n (L (J 0)) (some (.tup [(i 0), (i 19)])) .e)
def kd104 : T AV := .n (.n (.n kd0 (some (.slc (some (0, 0)) 1 1 3 .exact)) (L (J 19))) (J 3) kd67) (J 2) (.n kd52 none (.n (L (J 3)) (J 4) .e))
def kd105 : T AV := .n (.n (L (some (.tup [(i 1), (i 0)]))) (some (.slc (some (3, 0)) 2 2 3 .exact)) .e) (J 6) (.n (L (some (.tup [(i 3), (.bool false), (i 0)]))) (J 19) .e)
def kd106 : T AV := .n (.n (L (some (.tup [(i 0), (i 16)]))) (J 4) .e) none (.n (L (J 0)) (some (.tup [(i 2), (i 0)])) .e)
def kd107 : T AV := .n (.n (.n kd102 (J 4) (.n kd49 (J 8) kd81)) (J 4) (.n kd103 (J 0) kd83)) (some (.ptr (some (5, 0)))) (.n kd104 (J 0) (.n kd105 (J 1) kd106))
def kd108 : T AV := .n (L (some (.tup [(i 0), (i 0)]))) (some (.slc (some (0, 0)) 1 1 3 .exact)) (L (some (.agg [(i 0), (i 0), (.str [69, 69, 78, 87])])))
def kd109 : T AV := .n (L (some (.agg [(i 0), (i 0), (.str [69, 78, 87, 83])]))) (some (.agg [(i 4), (i 3), (.slc (some (3, 0)) 2 2 3 .exact), (.slc none 0 0 0 .exact)])) .e
def kd110 : T AV := .n (.n kd45 (J 0) (.n (L (J 16)) (J 0) .e)) (J 0) (.n (.n (L (J 0)) (some (.tup [(i 4), (i 0)])) .e) none kd109)
def kd111 : T AV := .n (L (some (.tup [(i 0), (i 0)]))) (some (.slc (some (1, 0)) 1 1 3 .exact)) (L (some (.agg [(i 0), (i 0), (.str [69, 78, 87, 88])])))
def kd112 : T AV := .n kd111 (some (.bool false)) (.n (L (some (.tup [(i 0), (i 16)]))) (some (.slc (some (8, 0)) 1 1 3 .exact)) .e)
def kd113 : T AV := .n (.n kd3 (J 0) .e) none (.n (L (some (.agg [(i 0), (i 0), (.str [69, 78, 87])]))) (J 2) .e)
def kd114 : T AV := .n (.n kd112 (J 0) kd89) (J 19) (.n (.n (.n kd3 (some (.slc (some (3, 0)) 2 2 3 .exact)) .e) (J 19) kd90) (J 0) kd113)
def kd115 : T AV := .n (.n (.n (.n kd108 (J 16) kd71) (J 0) kd87) (J 0) kd110) (some (.ptr (some (6, 0)))) kd114
set_option maxHeartbeats 0 in
theorem ks10 : (itO ft oraW 19989).exec (a16.body.snd.snd.snd.snd.snd.snd.snd.snd.snd.snd.fst) (.n kd86 (some (.bool false)) kd92) ⟨(.n (.n (.n kd93 (I [5,7]) kd94) (I [6]) kd96) (I [5]) kd101), 36, 0⟩ = some (.normal, (.n kd107 (some (.bool false)) kd115), ⟨(.n (.n (.n kd93 (I [5,7]) kd94) (I [6]) kd96) (I [5]) kd101), 36, 0⟩) := by kernel_rfl
def kd116 : T AV := .n (L (some (.slc (some (9, 0)) 2 2 3 .exact))) (some (.agg [(i 4), (i 3), (.slc (some (3, 0)) 2 2 3 .exact), (.slc none 0 0 0 .exact)])) (L (J 2))
def kd117 : T AV := .n (.n (L (J 1)) (some (.slc (some (7, 0)) 1 1 3 .exact)) .e) (J 0) (.n (L (J 0)) (some (.tup [(i 2), (i 0)])) .e)
def kd118 : T AV := .n (L (some (.slc (some (10, 0)) 1 1 81 .exact))) (some (.agg [(i 4), (i 3), (.slc (some (0, 0)) 1 1 3 .exact), (.slc (some (1, 0)) 1 1 3 .exact)])) (L (J 0))
def kd119 : T AV := .n (.n (.n kd0 (some (.slc (some (0, 0)) 1 1 3 .exact)) (L (J 19))) (J 3) kd67) (J 2) (.n kd118 (J 2) (.n (L (J 3)) (J 4) .e))
def kd120 : T AV := .n (L (some (.tup [(i 1), (i 0)]))) (some (.slc (some (3, 0)) 2 2 3 .exact)) (L (some (.tup [(i 4), (i 2), (i 2), (i 0)])))
def kd121 : T AV := .n (.n kd120 (J 6) (.n (L (some (.tup [(i 3), (.bool false), (i 0)]))) (J 19) .e)) (J 1) kd106
def kd122 : T AV := .n (.n (.n kd102 (J 4) (.n kd116 (J 8) kd81)) (J 4) (.n kd103 (J 0) kd117)) (some (.ptr (some (5, 0)))) (.n kd119 (J 0) kd121)
def kd123 : T AV := .n (L (some (.agg [(.slc (some (9, 0)) 2 2 3 .exact), (i 1)]))) (some (.tup [(i 4), (i 0)])) (L (J 2))
def kd124 : T AV := .n kd123 (J 4) (.n (L (some (.tup [(i 3), (.bool false), (i 0)]))) (some (.tup [(i 4), (i 0)])) .e)
def kd125 : T AV := .n (L (J 0)) (some (.agg [(i 4), (i 3), (.slc (some (0, 0)) 1 1 3 .exact), (.slc (some (1, 0)) 1 1 3 .exact)])) (L (some (.tup [(i 4), (i 2), (i 2), (i 0)])))
def kd126 : T AV := .n (.n kd125 (J 0) (.n (L (J 16)) (J 0) .e)) (J 0) (.n (.n (L (J 0)) (some (.tup [(i 4), (i 0)])) .e) none kd109)
def kd127 : T AV := .n (.n (L (some (.tup [(i 1), (i 0)]))) (some (.slc (some (7, 0)) 1 1 3 .exact)) .e) (J 2) (.n (L (some (.bool false))) (J 0) .e)
def kd128 : T AV := .n (.n (.n kd3 (some (.slc (some (3, 0)) 2 2 3 .exact)) (L (J 4))) (J 19) kd90) (J 0) kd113
def kd129 : T AV := .n (.n (.n (.n kd108 (J 16) kd71) (J 0) kd124) (J 0) kd126) (some (.ptr (some (6, 0)))) (.n (.n kd112 (J 0) kd127) (J 19) kd128)
set_option maxHeartbeats 0 in
theorem ks11 : (itO ft oraW 19988).exec (a16.body.snd.snd.snd.snd.snd.snd.snd.snd.snd.snd.snd.fst) (.n kd107 (some (.bool false)) kd115) ⟨(.n (.n (.n kd93 (I [5,7]) kd94) (I [6]) kd96) (I [5]) kd101), 36, 0⟩ = some (.normal, (.n kd122 (some (.bool false)) kd129), ⟨(.n (.n (.n kd93 (I [5,7]) kd94) (I [6]) kd96) (I [5]) kd101), 36, 0⟩) := by kernel_rfl
def kd130 : T AV := .n (L (some (.slc (some (12, 0)) 2 2 3 .exact))) (some (.tup [(i 0), (i 19)])) (L (J 0))
def kd131 : T AV := .n (L (J 1)) (some (.slc (some (7, 0)) 1 1 3 .exact)) (L (some (.tup [(i 8), (i 2), (i 4), (i 0)])))
def kd132 : T AV := .n (.n (.n (.n (L (J 0)) (J 0) (L (J 6))) (J 0) kd130) (J 4) (.n kd116 (J 8) kd81)) (J 4) (.n kd103 (J 0) (.n kd131 (J 0) (.n (L (J 0)) (some (.tup [(i 2), (i 0)])) .e)))
def kd133 : T AV := .n (.n (L (some (.tup [(i 0), (i 16)]))) (J 4) (L (J 2))) (J 2) (.n (L (J 0)) (some (.tup [(i 2), (i 0)])) .e)
def kd134 : T AV := .n (.n kd120 (J 6) (.n (L (some (.tup [(i 3), (.bool false), (i 0)]))) (J 19) .e)) (J 1) kd133
def kd135 : T AV := .n (.n kd125 (J 0) (.n (L (J 16)) (J 0) .e)) (J 0) (.n (.n (L (J 0)) (some (.tup [(i 4), (i 0)])) (L (J 8))) (J 8) kd109)
def kd136 : T AV := .n (L (some (.tup [(i 1), (i 0)]))) (some (.slc (some (7, 0)) 1 1 3 .exact)) (L (some (.tup [(i 8), (i 2), (i 4), (i 0)])))
def kd137 : T AV := .n (.n kd3 (J 0) (L (J 4))) (J 4) (.n (L (some (.agg [(i 0), (i 0), (.str [69, 78, 87])]))) (J 2) .e)
def kd138 : T AV := .n (.n (.n kd3 (some (.slc (some (3, 0)) 2 2 3 .exact)) (L (J 4))) (J 19) kd90) (J 0) kd137
def kd139 : T AV := .n (.n kd112 (J 0) (.n kd136 (J 2) (.n (L (some (.bool false))) (J 0) .e))) (J 19) kd138
def kd140 : T AV := .n (.n (.n (.n kd108 (J 16) kd71) (J 0) kd124) (J 0) kd135) (some (.ptr (some (6, 0)))) kd139
def kd141 : T AV := .n (.n kd132 (some (.ptr (some (5, 0)))) (.n kd119 (J 0) kd134)) (some (.bool false)) kd140
set_option maxHeartbeats 0 in
theorem ks12 : (itO ft oraW 19987).exec (a16.body.snd.snd.snd.snd.snd.snd.snd.snd.snd.snd.snd.snd.fst) (.n kd122 (some (.bool false)) kd129) ⟨(.n (.n (.n kd93 (I [5,7]) kd94) (I [6]) kd96) (I [5]) kd101), 36, 0⟩ = some (.normal, kd141, ⟨(.n (.n (.n kd93 (I [5,7]) kd94) (I [6]) kd96) (I [5]) kd101), 36, 0⟩) := by kernel_rfl
def kd142 : T AV := .n (.n (L (J 0)) (some (.slc (some (12, 0)) 2 2 3 .exact)) (L (J 8))) (some (.tup [(i 0), (i 19)])) (.n (L (J 6)) (J 0) .e)
def kd143 : T AV := .n (.n (L (J 2)) (some (.slc (some (9, 0)) 2 2 3 .exact)) (L (J 2))) (some (.agg [(i 4), (i 3), (.slc (some (3, 0)) 2 2 3 .exact), (.slc none 0 0 0 .exact)])) (.n (L (some (.bool false))) (J 2) .e)
def kd144 : T AV := .n (L (J 1)) (some (.agg [(i 1), (i 1), (.str [78, 69, 78, 69, 83, 83, 87, 87])])) (L (J 4))
def kd145 : T AV := .n kd144 (some (.agg [(i 4), (i 3), (.slc (some (0, 0)) 1 1 3 .exact), (.slc (some (1, 0)) 1 1 3 .exact)])) (.n (L (J 8)) (J 19) .e)
def kd146 : T AV := .n (.n (.n (.n (L (J 4)) (J 0) (L (J 4))) (J 0) (.n (L (J 0)) (J 6) .e)) (J 0) kd142) (J 4) (.n kd143 (J 8) kd145)
def kd147 : T AV := .n (.n (L (J 0)) (J 0) (L (J 2))) (some (.slc (some (1, 0)) 1 1 3 .exact)) (.n (L (J 3)) (J 8) .e)
def kd148 : T AV := .n (.n (L (J 0)) (J 0) (L (J 2))) (some (.tup [(i 0), (i 19)])) (.n (L (J 19)) (J 4) .e)
def kd149 : T AV := .n (.n (L (J 0)) (J 1) (L (J 0))) (some (.slc (some (7, 0)) 1 1 3 .exact)) (.n (L (J 0)) (some (.tup [(i 8), (i 2), (i 4), (i 0)])) .e)
def kd150 : T AV := .n (.n (L (J 16)) (J 0) (L (some (.bool true)))) (some (.tup [(i 2), (i 0)])) (.n (L (J 0)) (J 0) .e)
def kd151 : T AV := .n (L (some (.bool true))) (some (.agg [(i 4), (i 3), (.slc (some (3, 0)) 2 2 3 .exact), (.slc none 0 0 0 .exact)])) (L (some (.bool true)))
def kd152 : T AV := .n kd151 (some (.slc (some (0, 0)) 1 1 3 .exact)) (.n (L (some (.bool true))) (J 19) .e)
def kd153 : T AV := .n (L (some (.bool true))) (some (.slc (some (13, 0)) 1 1 81 .exact)) (L (some (.bool true)))
def kd154 : T AV := .n kd153 (some (.slc (some (8, 0)) 1 1 3 .exact)) (.n (L (some (.bool true))) (some (.bool true)) .e)
def kd155 : T AV := .n (L (some (.bool true))) (some (.slc (some (10, 0)) 1 1 81 .exact)) (L (some (.bool true)))
def kd156 : T AV := .n kd155 (some (.agg [(i 4), (i 3), (.slc (some (0, 0)) 1 1 3 .exact), (.slc (some (1, 0)) 1 1 3 .exact)])) (.n (L (some (.bool true))) (J 0) .e)
def kd157 : T AV := .n (.n (L (some (.bool true))) (J 3) (L (some (.bool true)))) (J 4) (.n (L (some (.bool true))) (some (.bool true)) .e)
def kd158 : T AV := .n (.n (L (some (.bool true))) (some (.tup [(i 1), (i 0)])) (L (some (.bool true)))) (some (.slc (some (3, 0)) 2 2 3 .exact)) (.n (L (some (.bool true))) (some (.tup [(i 4), (i 2), (i 2), (i 0)])) .e)
def kd159 : T AV := .n (L (some (.bool true))) (some (.tup [(i 3), (.bool false), (i 0)])) (L (some (.bool true)))
def kd160 : T AV := .n (.n (L (some (.bool true))) (some (.tup [(i 0), (i 16)])) (L (some (.bool true)))) (J 4) (.n (L (some (.bool true))) (J 2) .e)
def kd161 : T AV := .n (.n (L (some (.bool true))) (J 0) .e) (some (.tup [(i 2), (i 0)])) (.n (L (some (.bool true))) (some (.bool true)) .e)
def kd162 : T AV := .n (.n kd158 (J 6) (.n kd159 (J 19) (.n (L (some (.bool true))) (some (.bool true)) .e))) (J 1) (.n kd160 (J 2) kd161)
def kd163 : T AV := .n (.n kd146 (J 4) (.n (.n kd147 (J 0) kd148) (J 0) (.n kd149 (J 0) kd150))) (some (.ptr (some (5, 0)))) (.n (.n (.n kd152 (J 3) kd154) (J 2) (.n kd156 (J 2) kd157)) (J 0) kd162)
def kd164 : T AV := .n (.n (L (some (.bool true))) (some (.tup [(i 0), (i 0)])) (L (some (.bool true)))) (some (.slc (some (0, 0)) 1 1 3 .exact)) (.n (L (some (.bool true))) (some (.agg [(i 0), (i 0), (.str [69, 69, 78, 87])])) .e)
def kd165 : T AV := .n (L (some (.bool true))) (some (.agg [(.slc (some (12, 0)) 2 2 3 .exact), (i 0)])) (L (some (.bool true)))
def kd166 : T AV := .n kd165 (some (.agg [(i 4), (i 3), (.slc (some (0, 0)) 1 1 3 .exact), (.slc (some (1, 0)) 1 1 3 .exact)])) (.n (L (some (.bool true))) (J 0) .e)
def kd167 : T AV := .n (L (some (.bool true))) (some (.agg [(.slc (some (9, 0)) 2 2 3 .exact), (i 1)])) (L (some (.bool true)))
def kd168 : T AV := .n kd159 (some (.tup [(i 4), (i 0)])) (.n (L (some (.bool true))) (some (.bool true)) .e)
def kd169 : T AV := .n (.n kd167 (some (.tup [(i 4), (i 0)])) (.n (L (some (.bool true))) (J 2) .e)) (J 4) kd168
def kd170 : T AV := .n (.n (L (some (.bool true))) (J 0) (L (some (.bool true)))) (some (.agg [(i 4), (i 3), (.slc (some (0, 0)) 1 1 3 .exact), (.slc (some (1, 0)) 1 1 3 .exact)])) (.n (L (some (.bool true))) (some (.tup [(i 4), (i 2), (i 2), (i 0)])) .e)
def kd171 : T AV := .n (.n (L (some (.bool true))) (J 16) (L (some (.bool true)))) (J 0) (.n (L (some (.bool true))) (some (.bool true)) .e)
def kd172 : T AV := .n (.n (L (some (.bool true))) (J 0) (L (some (.bool true)))) (some (.tup [(i 4), (i 0)])) (.n (L (some (.bool true))) (J 8) .e)
def kd173 : T AV := .n (L (some (.bool true))) (some (.agg [(i 0), (i 0), (.str [69, 78, 87, 83])])) (L (some (.bool true)))
def kd174 : T AV := .n kd173 (some (.agg [(i 4), (i 3), (.slc (some (3, 0)) 2 2 3 .exact), (.slc none 0 0 0 .exact)])) (.n (L (some (.bool true))) (some (.bool true)) .e)
def kd175 : T AV := .n (.n (.n kd164 (J 16) kd166) (J 0) kd169) (J 0) (.n (.n kd170 (J 0) kd171) (J 0) (.n kd172 (J 8) kd174))
def kd176 : T AV := .n (.n (L (some (.bool true))) (some (.tup [(i 0), (i 0)])) (L (some (.bool true)))) (some (.slc (some (1, 0)) 1 1 3 .exact)) (.n (L (some (.bool true))) (some (.agg [(i 0), (i 0), (.str [69, 78, 87, 88])])) .e)
def kd177 : T AV := .n (.n (L (some (.bool true))) (some (.tup [(i 0), (i 16)])) (L (some (.bool true)))) (some (.slc (some (8, 0)) 1 1 3 .exact)) (.n (L (some (.bool true))) (some (.bool true)) .e)
def kd178 : T AV := .n (.n (L (some (.bool true))) (some (.tup [(i 1), (i 0)])) (L (some (.bool true)))) (some (.slc (some (7, 0)) 1 1 3 .exact)) (.n (L (some (.bool true))) (some (.tup [(i 8), (i 2), (i 4), (i 0)])) .e)
def kd179 : T AV := .n (.n (L (some (.bool true))) (some (.bool false)) (L (some (.bool true)))) (J 0) (.n (L (some (.bool true))) (some (.bool true)) .e)
def kd180 : T AV := .n (L (some (.bool true))) (some (.agg [(i 4), (i 3), (.slc (some (0, 0)) 1 1 3 .exact), (.slc (some (1, 0)) 1 1 3 .exact)])) (L (some (.bool true)))
def kd181 : T AV := .n (L (some (.bool true))) (some (.agg [(i 1), (i 1), (.str [69, 69, 78, 78, 87, 83, 87, 83])])) (L (some (.bool true)))
def kd182 : T AV := .n kd181 (some (.tup [(i 4), (i 0)])) (.n (L (some (.bool true))) (some (.bool true)) .e)
def kd183 : T AV := .n (.n kd180 (some (.slc (some (3, 0)) 2 2 3 .exact)) (.n (L (some (.bool true))) (J 4) .e)) (J 19) kd182
def kd184 : T AV := .n (.n (L (some (.bool true))) (some (.agg [(i 0), (i 0), (.str [69, 78, 87])])) .e) (J 2) (.n (L (some (.bool true))) (some (.bool true)) .e)
def kd185 : T AV := .n (.n (.n kd176 (some (.bool false)) kd177) (J 0) (.n kd178 (J 2) kd179)) (J 19) (.n kd183 (J 0) (.n (.n kd180 (J 0) (.n (L (some (.bool true))) (J 4) .e)) (J 4) kd184))
set_option maxHeartbeats 0 in
theorem ks13 : (itO ft oraW 19986).exec (a16.body.snd.snd.snd.snd.snd.snd.snd.snd.snd.snd.snd.snd.snd.fst) kd141 ⟨(.n (.n (.n kd93 (I [5,7]) kd94) (I [6]) kd96) (I [5]) kd101), 36, 0⟩ = some (.normal, (.n kd163 (some (.bool true)) (.n kd175 (some (.ptr (some (6, 0)))) kd185)), ⟨(.n (.n (.n kd93 (I [5,7]) kd94) (I [6]) kd96) (I [5]) kd101), 36, 0⟩) := by kernel_rfl
set_option maxHeartbeats 0 in
theorem ks14 : (itO ft oraW 19986).exec (a16.body.snd.snd.snd.snd.snd.snd.snd.snd.snd.snd.snd.snd.snd.snd) (.n kd163 (some (.bool true)) (.n kd175 (some (.ptr (some (6, 0)))) kd185)) ⟨(.n (.n (.n kd93 (I [5,7]) kd94) (I [6]) kd96) (I [5]) kd101), 36, 0⟩ = some (.ret, (.n kd163 (some (.bool true)) (.n kd175 (some (.ptr (some (6, 0)))) kd185)), ⟨(.n (.n (.n kd93 (I [5,7]) kd94) (I [6]) kd96) (I [5]) kd101), 36, 0⟩) := by kernel_rfl
theorem kall : (itO ft oraW 20000).exec a16.body .e ⟨.e, 0, 0⟩ = some (.ret, (.n kd163 (some (.bool true)) (.n kd175 (some (.ptr (some (6, 0)))) kd185)), ⟨(.n (.n (.n kd93 (I [5,7]) kd94) (I [6]) kd96) (I [5]) kd101), 36, 0⟩) :=
  exec_seq rfl ks0 (exec_seq rfl ks1 (exec_seq rfl ks2 (exec_seq rfl ks3 (exec_seq rfl ks4 (exec_seq rfl ks5 (exec_seq rfl ks6 (exec_seq rfl ks7 (exec_seq rfl ks8 (exec_seq rfl ks9 (exec_seq rfl ks10 (exec_seq rfl ks11 (exec_seq rfl ks12 (exec_seq rfl ks13 (ks14))))))))))))))
theorem kval : callF (itO ft oraW 20000) a16 [] ⟨.e, 0, 0⟩ = some (.bool true, ⟨.e, 0, 0⟩) :=
  callF_pure rfl rfl kall (fun j e => by cases e) (by kernel_rfl) rfl
theorem kget : ft.get 16 = some a16 := by kernel_rfl
end Go.AM
