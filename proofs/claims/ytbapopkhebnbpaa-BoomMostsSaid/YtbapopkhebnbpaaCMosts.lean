/- BoomMosts: for every input the law returns true. No condition. -/
import Derived.Test.YtbapopkhebnbpaaRows
import Derived.Test.YtbapopkhebnbpaaAgB
import Derived.Test.YtbapopkhebnbpaaB7
import Derived.Test.YtbapopkhebnbpaaWkB
set_option linter.all false
set_option linter.unusedVariables false
set_option linter.unusedSimpArgs false
set_option linter.unusedSectionVars false
namespace Go.Proofs.Ytbapopkhebnbpaa
open Go Go.AM Go.ChangeShapes Go.WideShapes Go.ChangeAt Go.RowKit

theorem own : ownKnob Try.prog.godebug = none := by kernel_rfl
theorem laidOut : laidOutB Try.prog = true := by kernel_rfl

theorem mosts_args (h : T AObj) (n : Nat) (largs : List AV) (hf : Fresh h n) (hl : largs.length = Try.f7.params.toList.length) (ha : ∀ (j : Nat) t, Try.f7.params.toList[j]? = some t → ∃ a, largs[j]? = some a ∧ Arg Try.prog h t a) :
    (lim ft oraW).call (.fn 7 [] []) largs ⟨h, n, 0⟩ = some (.bool true, ⟨h, n, 0⟩) := by
  rw [Try.params7] at hl ha
  obtain ⟨a0, e0, h0⟩ := ha 0 3 rfl
  obtain ⟨a1, e1, h1⟩ := ha 1 3 rfl
  obtain ⟨a2, e2, h2⟩ := ha 2 3 rfl
  match largs, hl with
  | [c0, c1, c2], _ =>
    simp at e0 e1 e2
    subst e0 e1 e2
    obtain ⟨x0, rfl, _, b0⟩ := int_arg h0
    obtain ⟨x1, rfl, _⟩ := int_arg h1
    obtain ⟨x2, rfl, _⟩ := int_arg h2
    exact mosts_call hf b0

set_option maxRecDepth 100000 in
theorem mosts_lifted (os : Os) (started : os.Started) (H : Type) (enc : TypeId × Value → H) :
    ReturnsInHanded {} Try.checked os 7 .any (Rows.boomMostsSpec.pre6 enc Try.prog Try.f7 Rows.boomMostsRow.domain false) (Rows.boomMostsSpec.post enc Try.prog Try.f7 false true false false) := by
  refine returnsInHanded_of_change (C := Try.checked) own started (by kernel_rfl) Try.func7
    (ChangeSpec.witness6 (enc := enc) (C := Try.checked) false ⟨#[], #[.int .i64 0, .int .i64 0, .int .i64 0], []⟩ 8 (by kernel_rfl) (by kernel_rfl) (by kernel_rfl) (by kernel_rfl)) ?_
  intro W base args ds gs before hval hW _ _
  refine law_contract (O := oraW) (ft := ft) (af := a7) laidOut (lim_sound mixed table oraW_ok) table (by kernel_rfl) rfl (by kernel_rfl) (by kernel_rfl) rfl (by kernel_rfl : Try.f7.resultTypes = #[4]) Try.underlying4 ?_ (fun a r σ => rfl) (by rw [Try.params7]; simp) mosts_args hval hW
  intro ds hd
  rw [Try.params7] at hd
  match ds, hd with
  | [d1, d2, d3], _ => rfl

theorem boomMosts_holds : Rows.BoomMostsSaid :=
  OpenClaim.holds_of_wide 7 Try.f7 rfl rfl rfl rfl rfl rfl rfl ⟨rfl, rfl, rfl, rfl, rfl⟩ rfl rfl rfl rfl rfl (by kernel_rfl) Try.func7 (by kernel_rfl)
    (of_decide_eq_true (by kernel_rfl)) (by unfold Func.isWrapper; first | (rw [if_pos (by decide +kernel)]; kernel_rfl) | (rw [if_neg (by decide +kernel)]; exact ⟨rfl, rfl⟩))
    (fun os started H enc _ => mosts_lifted os started H enc)

end Go.Proofs.Ytbapopkhebnbpaa
