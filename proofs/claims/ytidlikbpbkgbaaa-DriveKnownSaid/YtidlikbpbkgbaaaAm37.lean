/- Steps of a closed run, chained; a closed call, answered ahead. -/
import Derived.Test.YtidlikbpbkgbaaaAm36
import Derived.KernelRfl
namespace Go.AM
open Go
noncomputable section
def ACode.fst : ACode → ACode
  | .seq a _ => a
  | c => c
def ACode.snd : ACode → ACode
  | .seq _ b => b
  | c => c
def oraNone : Ora := fun _ _ _ => none
/-- The call of function g, without arguments, is answered by b. -/
def oraOf (g : Nat) (b : Bool) : Ora := fun f args σ =>
  match f, args with
  | .fn n [] [], [] => bif Nat.beq n g then some (.bool b, σ) else none
  | _, _ => none
variable {P : Program} {ft : T AFunc} {O : Ora}
theorem exec_seq {m : Nat} {c : ACode} {tm tm1 : T AV} {σ σ1 : AS} {r : Option (AExit × T AV × AS)} (hc : c = .seq c.fst c.snd) (h1 : (itO ft O m).exec c.fst tm σ = some (.normal, tm1, σ1))
    (h2 : (itO ft O m).exec c.snd tm1 σ1 = r) : (itO ft O (m + 1)).exec c tm σ = r := by
  rw [hc]
  show ((itO ft O m).exec c.fst tm σ).bind _ = r
  rw [h1]
  exact h2
theorem oraNone_ok : OraOK P oraNone := ⟨fun _ _ _ _ _ h => (by cases h), fun _ _ _ _ _ h => (by cases h)⟩
theorem oraOf_inv {g : Nat} {b : Bool} {fv : AV} {args : List AV} {σ σ' : AS} {v : AV} (h : oraOf g b fv args σ = some (v, σ')) : fv = .fn g [] [] ∧ args = [] ∧ v = .bool b ∧ σ' = σ := by
  unfold oraOf at h
  split at h
  · rename_i n
    cases e : Nat.beq n g with
    | true =>
      rw [e] at h; cases h
      rw [Nat.eq_of_beq_eq_true e]
      exact ⟨rfl, rfl, rfl, rfl⟩
    | false => rw [e] at h; cases h
  · cases h
theorem oraOf_ok (hmix : P.follows .mixedOrders = true) (hT : TableOK P ft) {O : Ora} (hO : OraOK P O) {g m : Nat} {b : Bool} {af : AFunc} (hg : ft.get g = some af)
    (h : callF (itO ft O m) af [] ⟨.e, 0, 0⟩ = some (.bool b, ⟨.e, 0, 0⟩)) (hno : O (.fn g [] []) [] ⟨.e, 0, 0⟩ = none) : OraOK P (oraOf g b) where
  call fv args σ v σ' ho f w rf rargs hf ha hR hdom hfl := by
    obtain ⟨rfl, rfl, rfl, rfl⟩ := oraOf_inv ho
    have hc : (itO ft O (m + 1)).call (.fn g [] []) [] ⟨.e, 0, 0⟩ = some (.bool b, ⟨.e, 0, 0⟩) := by
      show ansV ft O (.fn g [] []) (itO ft O m) [] ⟨.e, 0, 0⟩ = _
      unfold ansV
      rw [hno]
      show (ft.get g).bind _ = _
      rw [hg]; exact h
    have hS := (it_sound hmix hT hO (m + 1)).1
    have hf0 : VR P (fun _ => none) (.fn g [] []) rf := by
      simp only [VR, VRs] at hf ⊢; exact hf
    have ha0 : VRs P (fun _ => none) [] rargs.toList := by simp only [VRs] at ha ⊢; exact ha
    obtain ⟨nx, f0, h1, h2, h3⟩ := hS.call _ _ _ _ _ hc (fun _ => none) w rf rargs hf0 ha0 ⟨fun b o e => (by cases e), fun b o e => (by cases e), fun _ _ _ _ _ _ e => (by cases e)⟩ (fun _ _ => rfl) (Nat.le_refl _)
    refine ⟨nx, f0, h1, h2, fun c cs => (h3 c cs).mono fun m hm => ?_⟩
    obtain ⟨rv, w', f', e1, e2, e3⟩ := hm
    refine ⟨rv, w', f, e1, by simpa only [VR] using e2, StR.grow hR (fun i hi => e3.kept i hi fun b o t e => (by cases e)) e3.sz e3.out e3.os⟩
  abs fv args σ v σ' ho := by
    obtain ⟨_, _, _, rfl⟩ := oraOf_inv ho
    exact Abs.refl _
theorem callF_pure {G : Fns} {af : AFunc} {args : List AV} {σ σ1 : AS} {tm : T AV} {x : AExit} {v : AV} (hn : args.length = af.nparams) (hp : af.pure = true)
    (h : G.exec af.body (setArgs args 0 .e) { σ with floor := σ.next } = some (x, tm, σ1)) (hx : ∀ j, x ≠ .exit j) (hv : resV tm σ1 af.results = some v) (hpl : v.plainRes = true) : callF G af args σ = some (v, σ) := by
  unfold callF
  have e : Nat.beq args.length af.nparams = true := by rw [hn]; exact Nat.beq_refl _
  rw [e, hp]
  show ((G.exec af.body (setArgs args 0 .e) { σ with floor := σ.next }).bind _) = _
  rw [h]
  cases x with
  | exit j => exact absurd rfl (hx j)
  | normal => show ((resV tm σ1 af.results).bind _) = _; rw [hv]; show (bif v.plainRes then _ else _) = _; rw [hpl]; rfl
  | ret => show ((resV tm σ1 af.results).bind _) = _; rw [hv]; show (bif v.plainRes then _ else _) = _; rw [hpl]; rfl
end
end Go.AM
