/- A call of the program by the small machine's table. -/
import Derived.Test.YtbapopkhebnbpaaAm34
namespace Go.AM
open Go
noncomputable section

variable {P : Program} {f f' : FM} {tm : T AV} {σ σ' : AS} {w w' : World} {v : AV} {G : Fns} {ft : T AFunc}

theorem calls_of (hmix : P.follows .mixedOrders = true) (hT : TableOK P ft) {m g : Nat} {af : AFunc} (hg : ft.get g = some af) {args : List AV} (h : callF (fns ft m) af args σ = some (v, σ'))
    {rargs : Array Value} (ha : VRs P f args rargs.toList) (hR : Rel P f σ w) (hdom : Dom f σ) (hfl : σ.floor ≤ σ.next) : Calls P g rargs w (Told P f σ w v σ') := by
  have hS := all_sound hmix hT m
  obtain ⟨fn, hfn, hokF⟩ := hT g af hg
  unfold callF at h
  obtain ⟨hl, h⟩ := bif_none h
  have hl : args.length = af.nparams := by
    cases e : Nat.beq args.length af.nparams with
    | true => exact Nat.eq_of_beq_eq_true e
    | false => rw [e] at hl; cases hl
  cases hpu : af.pure with
  | true =>
    rw [hpu, cond_true] at h
    obtain ⟨⟨x, t, σ1⟩, h1, h⟩ := bind_some h
    have hx : ∀ j, x ≠ .exit j := fun j e => by subst e; cases h
    have h2 : ((resV t σ1 af.results).bind fun v => bif v.plainRes then some (v, σ) else none) = some (v, σ') := by
      cases x with
      | exit j => exact absurd rfl (hx j)
      | normal => exact h
      | ret => exact h
    obtain ⟨u, h3, h2⟩ := bind_some h2
    obtain ⟨hpl, h2⟩ := bif_some h2
    cases h2
    have hR0 : Rel P f { σ with floor := σ.next } w := ⟨hR.obj, hR.lt, hR.inj⟩
    refine (body_calls hS hfn hokF hl h1 hx h3 ha hR0 hdom (Nat.le_refl _)).mono fun e w' he => ?_
    obtain ⟨rv, f', e1, e2, e3⟩ := he
    · refine ⟨rv, f, e1, e2.of_plainRes hpl, StR.grow hR (fun i hi => e3.kept i hi fun b o t g1 _ g3 _ => ?_) e3.sz e3.out e3.os⟩
      have := hR.lt b o g1
      have g3 : σ.next ≤ b := g3
      omega
  | false =>
    rw [hpu, cond_false] at h
    obtain ⟨⟨x, t, σ1⟩, h1, h⟩ := bind_some h
    have hx : ∀ j, x ≠ .exit j := fun j e => by subst e; cases h
    have h2 : ((resV t σ1 af.results).map fun v => (v, σ1)) = some (v, σ') := by
      cases x with
      | exit j => exact absurd rfl (hx j)
      | normal => exact h
      | ret => exact h
    obtain ⟨u, h3, h2⟩ := map_some h2
    cases h2
    exact body_calls hS hfn hokF hl h1 hx h3 ha hR hdom hfl

end
end Go.AM
