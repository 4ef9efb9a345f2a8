/- The small machine's word on a call of the program. -/
import Derived.Test.YtbapopkhebnbpaaAm33
namespace Go.AM
open Go
noncomputable section

variable {P : Program} {f f' : FM} {tm : T AV} {σ σ' : AS} {w w' : World} {v : AV} {G : Fns} {ft : T AFunc}

namespace T
variable {α : Type}
def enum : T α → List (Nat × α)
  | .e => []
  | .n l v r => (match v with | some x => [(0, x)] | none => []) ++ ((enum l).map (fun p => (2 * p.1 + 1, p.2)) ++ (enum r).map fun p => (2 * p.1 + 2, p.2))
theorem mem_enum : ∀ (t : T α) (k : Nat) (x : α), t.get k = some x → (k, x) ∈ t.enum
  | .e, _, _, h => by cases h
  | .n l v r, k, x, h => by
    rw [get_n] at h
    unfold enum
    cases h0 : Nat.beq k 0 with
    | true =>
      rw [h0] at h
      have := Nat.eq_of_beq_eq_true h0
      subst this
      have h : v = some x := h
      subst h
      simp
    | false =>
      rw [h0] at h
      have k0 := Nat.ne_of_beq_eq_false h0
      have h : (bif Nat.beq (k % 2) 1 then l.get (k / 2) else r.get (k / 2 - 1)) = some x := h
      cases h1 : Nat.beq (k % 2) 1 with
      | true =>
        rw [h1] at h
        have k1 := Nat.eq_of_beq_eq_true h1
        have := mem_enum l _ _ h
        refine List.mem_append_right _ (List.mem_append_left _ (List.mem_map.2 ⟨_, this, ?_⟩))
        simp only [Prod.mk.injEq, and_true]
        omega
      | false =>
        rw [h1] at h
        have k1 := Nat.ne_of_beq_eq_false h1
        have := mem_enum r _ _ h
        refine List.mem_append_right _ (List.mem_append_right _ (List.mem_map.2 ⟨_, this, ?_⟩))
        simp only [Prod.mk.injEq, and_true]
        omega
end T

def okTable (P : Program) (ft : T AFunc) : Bool := ft.enum.all fun p => match P.funcs[p.1]? with | some fn => okF P p.2 fn | none => false
theorem table_of (h : okTable P ft = true) : TableOK P ft := fun g af hg => by
  have := (List.all_eq_true.1 h) _ (T.mem_enum ft g af hg)
  split at this
  · rename_i fn hfn; exact ⟨fn, hfn, this⟩
  · cases this

/-- What a call comes to: the function returns. -/
def Told (P : Program) (f : FM) (σ : AS) (w : World) (v : AV) (σ' : AS) (e : Ending) (w' : World) : Prop := ∃ rv f', e = .returned rv ∧ VR P f' v rv ∧ StR P f σ w f' σ' w'

theorem body_calls (hS : Sound P G) {g : Nat} {af : AFunc} {fn : Func} (hfn : P.funcs[g]? = some fn) (hokF : okF P af fn = true) {args : List AV} {tm1 : T AV} {x : AExit} (hn : args.length = af.nparams) (h : G.exec af.body (setArgs args 0 .e) σ = some (x, tm1, σ'))
    (hx : ∀ j, x ≠ .exit j) (hv : resV tm1 σ' af.results = some v) {rargs : Array Value} (ha : VRs P f args rargs.toList) (hR : Rel P f σ w) (hdom : Dom f σ) (hfl : σ.floor ≤ σ.next) :
    Calls P g rargs w (Told P f σ w v σ') := by
  intro cs
  unfold okF at hokF
  split at hokF
  · rename_i code hcode
    simp only [Bool.and_eq_true] at hokF
    obtain ⟨⟨⟨k1, k2⟩, k3⟩, _⟩ := hokF
    have k3 := Nat.le_of_ble_eq_true k3
    have hl : rargs.size = args.length := by rw [← Array.length_toList]; exact ha.length
    have hent : Frame.enter P g rargs .normal = (Base.mk g none).fr ⟨rargs ++ Array.replicate (fn.ntmps - rargs.size) undef, []⟩ [.code code] := by
      simp [Frame.enter, hfn, hcode, Base.fr]
    have hp : Pre P f σ w w.heap.size ⟨g, none⟩ fn.ntmps (setArgs args 0 .e) ⟨rargs ++ Array.replicate (fn.ntmps - rargs.size) undef, []⟩ :=
      ⟨hR, hdom, hfl, TR.args ha _, by simp; omega, DefOK.nil _ _, Nat.le_refl _, fun h => by simp at h⟩
    have key : To P (lone (Frame.enter P g rargs .normal) cs w) (fun m => ∃ rv w' f' fr, m = lone fr cs w' ∧ fr.fn = g ∧ fr.leaving P w' (.returned rv) ∧ VR P f' v rv ∧ StR P f σ w f' σ' w') := by
      rw [hent]
      refine (hS.exec _ _ _ _ _ _ h fn.ntmps code k1 f w w.heap.size ⟨g, none⟩ fn.ntmps _ _ [] cs (.inl rfl) hp (Nat.le_refl _) (.inr fun l0 h0 => by cases h0)).bind fun m hm => ?_
      obtain ⟨a1, w1, f1, e1, e2⟩ := hm
      have hlv : ∃ k', m = lone ((Base.mk g none).fr a1 k') cs w1 ∧ (Leaving k' none ∨ Leaving k' (some .ret)) := by
        cases x with
        | exit j => exact absurd rfl (hx j)
        | normal => exact ⟨[], e1, .inl rfl⟩
        | ret => obtain ⟨k', e1⟩ := e1; exact ⟨_, e1, .inr ⟨k', rfl⟩⟩
      obtain ⟨k', rfl, hlv⟩ := hlv
      obtain ⟨rs, d1, d2, d3⟩ := e2.defs
      obtain ⟨w2, u1, u2, u3, u4, u5⟩ := unwind_go (P := P) (B := ⟨g, none⟩) (a := a1) (k := k') (cs := cs) rs w1 d2 d3
      have hst : StR P f σ w f1 σ' w2 := e2.st.patch u2 u3 u4 u5
      obtain ⟨rv, r1, r2⟩ := res_sound hst.rel e2.tr k2 hv
      have hleave : ((Base.mk g none).out ⟨a1.tmps, []⟩ k').leaving P w2 (.returned rv) := ⟨rfl, rfl, rfl, fn, hfn, r1⟩
      refine To.step (st_leave rfl hlv) ?_
      have ea : a1 = ⟨a1.tmps, rs.map mark⟩ := by rw [← d1]
      rw [ea]
      exact To.steps u1 (To.here ⟨rv, w2, f1, _, rfl, rfl, hleave, r2, hst⟩)
    rcases key with hout | ⟨m, hsteps, rv, w', f', fr, rfl, e1, e2, e3, e4⟩
    · exact hout.elim
    · exact ⟨.returned rv, w', fr, ⟨rv, f', rfl, e3, e4⟩, hsteps, e1, e2⟩
  · cases hokF

end
end Go.AM
