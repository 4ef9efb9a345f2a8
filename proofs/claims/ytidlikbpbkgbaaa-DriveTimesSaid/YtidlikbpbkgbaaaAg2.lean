/- The drive's arguments: lists of small numbers. -/
import Derived.Test.YtidlikbpbkgbaaaAg
import Derived.Test.YtidlikbpbkgbaaaDE
set_option linter.all false
set_option linter.unusedVariables false
set_option linter.unusedSimpArgs false
set_option linter.unusedSectionVars false
namespace Go.AM
open Go Go.Proofs
noncomputable section
variable {h : T AObj} {n : Nat} {a : AV} {avs : List AV}

theorem u16_arg (ha : Arg Try.prog h 39 a) : ∃ x : Int, a = .int .u16 x ∧ 0 ≤ x ∧ x ≤ 65535 := by
  obtain ⟨n, avs, hs, rfl⟩ := ha
  obtain ⟨x, rfl, h1, h2⟩ := shp_int Try.underlying39 hs
  refine ⟨x, ?_, by simpa [IntKind.min, IntKind.signed] using h1, by simpa [IntKind.max, IntKind.signed, IntKind.bits] using h2⟩
  unfold argOf
  rw [Try.underlying39]; rfl
theorem bytes_arg (ha : Arg Try.prog h 38 a) : ∃ l : List Int, SlB h a l ∧ ∀ x ∈ l, 0 ≤ x ∧ x ≤ 255 := by
  obtain ⟨n, avs, hs, rfl⟩ := ha
  obtain ⟨v, l, rfl, h1, _, h2⟩ := slv_one (g := .int .u8) (p := fun x => 0 ≤ x ∧ x ≤ 255) cells5 hs Try.underlying38 fun m l hm => by
    obtain ⟨x, rfl, k1, k2⟩ := shp_int Try.underlying5 hm
    exact ⟨x, rfl, by simpa [IntKind.min, IntKind.signed] using k1, by simpa [IntKind.max, IntKind.signed, IntKind.bits] using k2⟩
  refine ⟨l, ?_, h2⟩
  unfold argOf
  rw [Try.underlying38]
  exact h1
end
end Go.AM
