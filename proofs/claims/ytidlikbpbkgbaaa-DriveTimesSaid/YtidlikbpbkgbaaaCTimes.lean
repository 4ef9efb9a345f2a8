/- DriveTimes: for every input the law returns true. No condition. -/
import Derived.Test.YtidlikbpbkgbaaaRows
import Derived.Test.YtidlikbpbkgbaaaAg2
import Derived.Test.YtidlikbpbkgbaaaL4
import Derived.Test.YtidlikbpbkgbaaaWk
set_option linter.all false
set_option linter.unusedVariables false
set_option linter.unusedSimpArgs false
set_option linter.unusedSectionVars false
namespace Go.Proofs.Ytidlikbpbkgbaaa
open Go Go.AM Go.ChangeShapes Go.WideShapes Go.ChangeAt Go.RowKit

theorem own : ownKnob Try.prog.godebug = none := by kernel_rfl
theorem laidOut : laidOutB Try.prog = true := by kernel_rfl

theorem times_args (h : T AObj) (n : Nat) (largs : List AV) (hf : Fresh h n) (hl : largs.length = Try.f4.params.toList.length) (ha : ∀ (j : Nat) t, Try.f4.params.toList[j]? = some t → ∃ a, largs[j]? = some a ∧ Arg Try.prog h t a) :
    (lim ft oraW).call (.fn 4 [] []) largs ⟨h, n, 0⟩ = some (.bool true, ⟨h, n, 0⟩) := by
  rw [Try.params4] at hl ha
  obtain ⟨a0, e0, h0⟩ := ha 0 24 rfl
  obtain ⟨a1, e1, h1⟩ := ha 1 5 rfl
  obtain ⟨a2, e2, h2⟩ := ha 2 5 rfl
  obtain ⟨a3, e3, h3⟩ := ha 3 38 rfl
  obtain ⟨a4, e4, h4⟩ := ha 4 39 rfl
  match largs, hl with
  | [c0, c1, c2, c3, c4], _ =>
    simp at e0 e1 e2 e3 e4
    subst e0 e1 e2 e3 e4
    obtain ⟨R, hR⟩ := river_arg h0
    obtain ⟨x1, rfl, b1⟩ := u8_arg h1
    obtain ⟨x2, rfl, b2⟩ := u8_arg h2
    obtain ⟨l, hB, b3⟩ := bytes_arg h3
    obtain ⟨x4, rfl, b4⟩ := u16_arg h4
    exact times_call hR hf b1 b2 hB b3 b4

set_option maxRecDepth 100000 in
theorem times_lifted (os : Os) (started : os.Started) (H : Type) (enc : TypeId × Value → H) :
    ReturnsInHanded {} Try.checked os 4 .any (Rows.driveTimesSpec.pre6 enc Try.prog Try.f4 Rows.driveTimesRow.domain false) (Rows.driveTimesSpec.post enc Try.prog Try.f4 false true false false) := by
  refine returnsInHanded_of_change (C := Try.checked) own started (by kernel_rfl) Try.func4
    (ChangeSpec.witness6 (enc := enc) (C := Try.checked) false ⟨#[], #[.agg #[.int .i64 0, .slice none 0 0], .int .u8 0, .int .u8 0, .slice none 0 0, .int .u16 0], []⟩ 8 (by kernel_rfl) (by kernel_rfl) (by kernel_rfl) (by kernel_rfl)) ?_
  intro W base args ds gs before hval hW _ _
  refine law_contract (O := oraW) (ft := ft) (af := a4) laidOut (lim_sound mixed table oraW_ok) table (by kernel_rfl) rfl (by kernel_rfl) (by kernel_rfl) rfl (by kernel_rfl : Try.f4.resultTypes = #[4]) Try.underlying4 ?_ (fun a r σ => rfl) (by rw [Try.params4]; simp) times_args hval hW
  intro ds hd
  rw [Try.params4] at hd
  match ds, hd with
  | [d1, d2, d3, d4, d5], _ => rfl

theorem driveTimes_holds : Rows.DriveTimesSaid :=
  OpenClaim.holds_of_wide 4 Try.f4 rfl rfl rfl rfl rfl rfl rfl ⟨rfl, rfl, rfl, rfl, rfl⟩ rfl rfl rfl rfl rfl (by kernel_rfl) Try.func4 (by kernel_rfl)
    (of_decide_eq_true (by kernel_rfl)) (by unfold Func.isWrapper; first | (rw [if_pos (by decide +kernel)]; kernel_rfl) | (rw [if_neg (by decide +kernel)]; exact ⟨rfl, rfl⟩))
    (fun os started H enc _ => times_lifted os started H enc)

end Go.Proofs.Ytidlikbpbkgbaaa
