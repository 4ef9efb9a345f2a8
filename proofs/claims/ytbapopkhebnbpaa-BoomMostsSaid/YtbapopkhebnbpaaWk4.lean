/- The run of function 18, a part of its statements: reckoned by the kernel. Printed by closed2.py. -/
import Derived.Test.YtbapopkhebnbpaaWk3
set_option linter.all false
set_option linter.unusedVariables false
set_option linter.unusedSimpArgs false
set_option linter.unusedSectionVars false
namespace Go.AM
open Go Go.Proofs Sh
set_option maxRecDepth 1000000
set_option maxHeartbeats 0 in
theorem wy10_0 : (itO ft oraNone 19986).exec (a36.body.fst) (setArgs [(.agg [(.int .i64 4), (.int .i64 3), (.slc (some (3, 0)) 2 2 3 .exact), (.slc none 0 0 0 .exact)])] 0 .e) ⟨(.n (.n (.n wd63 (I [5,7]) wd101) (I [6]) wd176) (I [5]) wd325), 1922, 0⟩ = some (.normal, wd326, ⟨(.n (.n (.n wd63 (I [5,7]) wd101) (I [6]) wd176) (I [5]) wd332), 1923, 0⟩) := by kernel_rfl
set_option maxHeartbeats 0 in
theorem wy10_1 : (itO ft oraNone 19985).exec (a36.body.snd.fst) wd326 ⟨(.n (.n (.n wd63 (I [5,7]) wd101) (I [6]) wd176) (I [5]) wd332), 1923, 0⟩ = some (.normal, wd335, ⟨wd738, 2633, 0⟩) := by kernel_rfl
set_option maxHeartbeats 0 in
theorem wy10_2 : (itO ft oraNone 19984).exec (a36.body.snd.snd.fst) wd335 ⟨wd738, 2633, 0⟩ = some (.normal, wd742, ⟨wd738, 2633, 0⟩) := by kernel_rfl
set_option maxHeartbeats 0 in
theorem wy10_3 : (itO ft oraNone 19983).exec (a36.body.snd.snd.snd.fst) wd742 ⟨wd738, 2633, 0⟩ = some (.normal, wd746, ⟨(.n wd1017 (I [5]) wd1285), 3402, 0⟩) := by kernel_rfl
set_option maxHeartbeats 0 in
theorem wy10_4 : (itO ft oraNone 19983).exec (a36.body.snd.snd.snd.snd) wd746 ⟨(.n wd1017 (I [5]) wd1285), 3402, 0⟩ = some (.ret, wd746, ⟨(.n wd1017 (I [5]) wd1285), 3402, 0⟩) := by kernel_rfl
theorem wy10_all : (itO ft oraNone 19987).exec a36.body (setArgs [(.agg [(.int .i64 4), (.int .i64 3), (.slc (some (3, 0)) 2 2 3 .exact), (.slc none 0 0 0 .exact)])] 0 .e) ⟨(.n (.n (.n wd63 (I [5,7]) wd101) (I [6]) wd176) (I [5]) wd325), 1922, 0⟩ = some (.ret, wd746, ⟨(.n wd1017 (I [5]) wd1285), 3402, 0⟩) :=
  exec_seq rfl wy10_0 (exec_seq rfl wy10_1 (exec_seq rfl wy10_2 (exec_seq rfl wy10_3 (wy10_4))))
theorem wy10_call : (itO ft oraNone 19988).call (.fn 36 [] []) [(.agg [(.int .i64 4), (.int .i64 3), (.slc (some (3, 0)) 2 2 3 .exact), (.slc none 0 0 0 .exact)])] ⟨(.n (.n (.n wd63 (I [5,7]) wd101) (I [6]) wd176) (I [5]) wd325), 1922, 0⟩ = some ((.tup [(.slc (some (3401, 0)) 8 8 81 .tail), (.int .i64 0)]), ⟨(.n wd1017 (I [5]) wd1285), 3402, 0⟩) :=
  call_body (m := 19987) rfl (by kernel_rfl) rfl rfl wy10_all (fun j e => by cases e) (by kernel_rfl)
theorem ws10 : (itO ft oraNone 19989).exec (a18.body.snd.snd.snd.snd.snd.snd.snd.snd.snd.snd.fst) (.n wd1528 (some (.bool false)) (.n wd19 (some (.ptr (some (6, 0)))) wd25)) ⟨(.n (.n (.n wd63 (I [5,7]) wd101) (I [6]) wd176) (I [5]) wd325), 1922, 0⟩ = some (.normal, wd1295, ⟨(.n wd1017 (I [5]) wd1285), 3402, 0⟩) :=
  reg_call (m := 19988) (i := 1) (k := 0) (dr := false) (dst := some 98) (f := (callAt (a18.body.snd.snd.snd.snd.snd.snd.snd.snd.snd.snd.fst).steps 1).1) (l := (callAt (a18.body.snd.snd.snd.snd.snd.snd.snd.snd.snd.snd.fst).steps 1).2) (pre := (a18.body.snd.snd.snd.snd.snd.snd.snd.snd.snd.snd.fst).steps.take 1) (post := (a18.body.snd.snd.snd.snd.snd.snd.snd.snd.snd.snd.fst).steps.drop 2) (tm1 := (.n wd14 (some (.bool false)) (.n wd19 (some (.ptr (some (6, 0)))) wd25))) (by kernel_rfl) (by kernel_rfl) (by kernel_rfl) (by kernel_rfl) wy10_call (by kernel_rfl)
end Go.AM
