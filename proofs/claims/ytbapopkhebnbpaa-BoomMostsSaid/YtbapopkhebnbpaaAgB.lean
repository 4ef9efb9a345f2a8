/- The boom's arguments. -/
import Derived.Test.YtbapopkhebnbpaaMD
import Derived.Test.YtbapopkhebnbpaaTop
set_option linter.all false
set_option linter.unusedVariables false
set_option linter.unusedSimpArgs false
set_option linter.unusedSectionVars false
namespace Go.AM
open Go Go.Proofs
noncomputable section
variable {h : T AObj} {n : Nat} {a : AV} {avs : List AV}

theorem i64min : IntKind.min .i64 = -9223372036854775808 := by decide +kernel
theorem i64max : IntKind.max .i64 = 9223372036854775807 := by decide +kernel
theorem int_arg0 (ha : Arg Try.prog h 3 a) : ∃ x : Int, a = .int .i64 x ∧ IntKind.min .i64 ≤ x ∧ x ≤ IntKind.max .i64 := by
  obtain ⟨n, avs, hs, he⟩ := ha
  obtain ⟨x, hx, h1, h2⟩ := shp_int Try.underlying3 hs
  refine ⟨x, ?_, h1, h2⟩
  rw [he, hx]
  unfold argOf
  rw [Try.underlying3]; rfl
theorem int_arg (ha : Arg Try.prog h 3 a) : ∃ x : Int, a = .int .i64 x ∧ -9223372036854775808 ≤ x ∧ x ≤ 9223372036854775807 := by
  have h1 := int_arg0 ha
  rw [i64min, i64max] at h1
  exact h1
end
end Go.AM
