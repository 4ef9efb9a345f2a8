/- The drive's arguments: rivers, small numbers, lists of them. -/
import Derived.Test.YtidlikbpbkgbaaaDB
import Derived.Test.YtidlikbpbkgbaaaMD
import Derived.Test.YtidlikbpbkgbaaaTop
set_option linter.all false
set_option linter.unusedVariables false
set_option linter.unusedSimpArgs false
set_option linter.unusedSectionVars false
namespace Go.AM
open Go Go.Proofs
noncomputable section
variable {h : T AObj} {n : Nat} {a : AV} {avs : List AV}

theorem cells31 : Try.prog.cellsOf 31 = 8 := by kernel_rfl
theorem cells29 : Try.prog.cellsOf 29 = 2 := by kernel_rfl
theorem cells24 : Try.prog.cellsOf 24 = 2 := by kernel_rfl
theorem cells22 : Try.prog.cellsOf 22 = 1 := by kernel_rfl
theorem cells2 : Try.prog.cellsOf 2 = 1 := by kernel_rfl
theorem cells3 : Try.prog.cellsOf 3 = 1 := by kernel_rfl
theorem cells5 : Try.prog.cellsOf 5 = 1 := by kernel_rfl
theorem cells48 : Try.prog.cellsOf 48 = 5 := by kernel_rfl

theorem reach_shp (hs : Shp Try.prog h n 31 avs) : ∃ r : Reach, avs = r.cl := by
  obtain ⟨hl, hf⟩ := shp_struct Try.underlying31 hs
  rw [cells31] at hl
  match avs, hl with
  | [c0, c1, c2, c3, c4, c5, c6, c7], _ =>
    simp only [List.mem_cons, List.not_mem_nil, or_false, forall_eq_or_imp, forall_eq, cells2, cells3, cells29] at hf
    obtain ⟨⟨_, f0⟩, ⟨_, f1⟩, ⟨_, f2⟩, ⟨_, f3⟩, ⟨_, f4⟩, ⟨_, f5⟩, ⟨_, f6⟩⟩ := hf
    obtain ⟨hl2, hf2⟩ := shp_struct Try.underlying29 f3
    simp only [List.mem_cons, List.not_mem_nil, or_false, forall_eq_or_imp, forall_eq, cells2] at hf2
    obtain ⟨⟨_, g0⟩, ⟨_, g1⟩⟩ := hf2
    obtain ⟨x0, e0, _⟩ := shp_int Try.underlying3 f0
    obtain ⟨x1, e1, _⟩ := shp_int Try.underlying2 f1
    obtain ⟨x2, e2, _⟩ := shp_int Try.underlying2 f2
    obtain ⟨x3, e3, _⟩ := shp_int Try.underlying2 g0
    obtain ⟨x4, e4, _⟩ := shp_int Try.underlying2 g1
    obtain ⟨x5, e5, _⟩ := shp_int Try.underlying2 f4
    obtain ⟨x6, e6, _⟩ := shp_int Try.underlying2 f5
    obtain ⟨x7, e7, _⟩ := shp_int Try.underlying2 f6
    simp at e0 e1 e2 e3 e4 e5 e6 e7
    subst e0 e1 e2 e3 e4 e5 e6 e7
    exact ⟨⟨x0, x1, x2, x3, x4, x5, x6, x7⟩, rfl⟩
theorem river_arg (ha : Arg Try.prog h 24 a) : ∃ R, RivAt h a R := by
  obtain ⟨n, avs, hs, rfl⟩ := ha
  obtain ⟨hl, hf⟩ := shp_struct Try.underlying24 hs
  rw [cells24] at hl
  match avs, hl with
  | [c0, c1], _ =>
    simp only [List.mem_cons, List.not_mem_nil, or_false, forall_eq_or_imp, forall_eq, cells2, cells22] at hf
    obtain ⟨⟨_, f0⟩, ⟨_, f1⟩⟩ := hf
    obtain ⟨x0, e0, _⟩ := shp_int Try.underlying2 f0
    obtain ⟨v, rs, e1, hv, _⟩ := slv_many (g := Reach.cl) cells31 f1 Try.underlying22 fun m l hm => reach_shp hm
    simp at e0 e1
    subst e0 e1
    refine ⟨⟨x0, rs⟩, _, ?_, hv⟩
    unfold argOf
    rw [Try.underlying24]
theorem u8_arg (ha : Arg Try.prog h 5 a) : ∃ x : Int, a = .int .u8 x ∧ 0 ≤ x ∧ x ≤ 255 := by
  obtain ⟨n, avs, hs, rfl⟩ := ha
  obtain ⟨x, rfl, h1, h2⟩ := shp_int Try.underlying5 hs
  refine ⟨x, ?_, by simpa [IntKind.min, IntKind.signed] using h1, by simpa [IntKind.max, IntKind.signed, IntKind.bits] using h2⟩
  unfold argOf
  rw [Try.underlying5]; rfl
theorem arr5_arg (ha : Arg Try.prog h 48 a) : ∃ x0 x1 x2 x3 x4 : Int, a = .agg [.int .u8 x0, .int .u8 x1, .int .u8 x2, .int .u8 x3, .int .u8 x4] ∧ (0 ≤ x0 ∧ x0 ≤ 255) ∧ (0 ≤ x1 ∧ x1 ≤ 255) ∧ (0 ≤ x2 ∧ x2 ≤ 255) ∧ (0 ≤ x3 ∧ x3 ≤ 255) ∧ (0 ≤ x4 ∧ x4 ≤ 255) := by
  obtain ⟨n, avs, hs, rfl⟩ := ha
  obtain ⟨hl, hf⟩ := shp_array Try.underlying48 hs
  rw [cells48] at hl
  have u : ∀ i, i < 5 → ∃ x : Int, (avs.drop i).take 1 = [.int .u8 x] ∧ 0 ≤ x ∧ x ≤ 255 := fun i hi => by
    obtain ⟨q, hq⟩ := hf i hi
    rw [cells5, Nat.mul_one] at hq
    obtain ⟨x, h1, h2, h3⟩ := shp_int Try.underlying5 hq
    exact ⟨x, h1, by simpa [IntKind.min, IntKind.signed] using h2, by simpa [IntKind.max, IntKind.signed, IntKind.bits] using h3⟩
  obtain ⟨x0, e0, b0⟩ := u 0 (by omega)
  obtain ⟨x1, e1, b1⟩ := u 1 (by omega)
  obtain ⟨x2, e2, b2⟩ := u 2 (by omega)
  obtain ⟨x3, e3, b3⟩ := u 3 (by omega)
  obtain ⟨x4, e4, b4⟩ := u 4 (by omega)
  match avs, hl with
  | [c0, c1, c2, c3, c4], _ =>
    simp at e0 e1 e2 e3 e4
    subst e0 e1 e2 e3 e4
    refine ⟨x0, x1, x2, x3, x4, ?_, b0, b1, b2, b3, b4⟩
    unfold argOf
    rw [Try.underlying48]
end
end Go.AM
