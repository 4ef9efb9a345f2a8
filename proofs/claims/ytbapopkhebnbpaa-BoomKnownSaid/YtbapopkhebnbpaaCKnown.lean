/- BoomKnown: whatever the world, the law returns true: the examples of the chapter hold. No condition. -/
import Derived.Test.YtbapopkhebnbpaaRows
import Derived.Test.YtbapopkhebnbpaaKn
namespace Go.Proofs.Ytbapopkhebnbpaa
open Go Go.AM Go.ChangeShapes Go.WideShapes Go.ChangeAt Go.RowKit

theorem own : ownKnob Try.prog.godebug = none := by kernel_rfl
theorem laidOut : laidOutB Try.prog = true := by kernel_rfl

set_option maxRecDepth 100000 in
theorem known_lifted (os : Os) (started : os.Started) (H : Type) (enc : TypeId × Value → H) :
    ReturnsInHanded {} Try.checked os 16 .any (Rows.boomKnownSpec.pre6 enc Try.prog Try.f16 Rows.boomKnownRow.domain false) (Rows.boomKnownSpec.post enc Try.prog Try.f16 false true false false) := by
  refine returnsInHanded_of_change (C := Try.checked) own started (by kernel_rfl) Try.func16
    (ChangeSpec.witness6 (enc := enc) (C := Try.checked) false ⟨#[], #[], []⟩ 8 (by kernel_rfl) (by kernel_rfl) (by kernel_rfl) (by kernel_rfl)) ?_
  intro W base args ds gs before hval0 hW hcnd _
  have hW' : DataW.Whole enc Try.prog Try.f16.params.toList Rows.boomKnownSpec.vars false W args.toList ds gs before := hW
  obtain ⟨p, q, hA, hV, rfl, hfz, hnd⟩ := id hW'
  rw [Try.params16] at hA
  obtain ⟨ha, rfl, rfl⟩ := trodAll_nil hA
  obtain ⟨rfl, rfl⟩ := trodVars_none hV
  have hargs : args = #[] := Array.toList_eq_nil_iff.1 ha
  subst hargs
  refine (calls_pure (G := lim ft oraW) (lim_sound mixed table oraW_ok) table kget rfl (it_callF kval) (rargs := #[]) (by simp [VRs]) (f := fun _ => none) (σ := ⟨.e, 0, 0⟩) ⟨fun b o e => (by cases e), fun b o e => (by cases e), fun _ _ _ _ _ _ e => (by cases e)⟩ (fun _ _ => rfl)).mono fun e W' he => ?_
  exact ⟨_, he.1, post_true laidOut (by kernel_rfl) rfl rfl (by kernel_rfl : Try.f16.resultTypes = #[4]) Try.underlying4 hW' he.2⟩

theorem boomKnown_holds : Rows.BoomKnownSaid :=
  OpenClaim.holds_of_wide 16 Try.f16 rfl rfl rfl rfl rfl rfl rfl ⟨rfl, rfl, rfl, rfl, rfl⟩ rfl rfl rfl rfl rfl (by kernel_rfl) Try.func16 (by kernel_rfl)
    (of_decide_eq_true (by kernel_rfl)) (by unfold Func.isWrapper; first | (rw [if_pos (by decide +kernel)]; kernel_rfl) | (rw [if_neg (by decide +kernel)]; exact ⟨rfl, rfl⟩))
    (fun os started H enc _ => known_lifted os started H enc)

end Go.Proofs.Ytbapopkhebnbpaa
