/- The small machine with the fuel left out, and with calls that are answered ahead. -/
import Derived.Test.YtbapopkhebnbpaaAm35
namespace Go.AM
open Go
noncomputable section

abbrev Ora := AV → List AV → AS → Option (AV × AS)
def ansV (ft : T AFunc) (O : Ora) (f : AV) (G : Fns) (args : List AV) (σ : AS) : Option (AV × AS) :=
  match O f args σ with
  | some r => some r
  | none => callV ft f G args σ
def stepO (ft : T AFunc) (O : Ora) (G : Fns) : Fns where
  exec c tm σ := execC c G tm σ
  call f args σ := ansV ft O f G args σ
def itO (ft : T AFunc) (O : Ora) : Nat → Fns
  | 0 => ⟨fun _ _ _ => none, fun _ _ _ => none⟩
  | n + 1 => stepO ft O (itO ft O n)

/-- What asks the two jobs finitely often. -/
inductive Fy : {α : Type} → (Fns → Option α) → Prop
  | const {α : Type} (x : Option α) : Fy fun _ => x
  | exec (c : ACode) (tm : T AV) (σ : AS) : Fy fun G => G.exec c tm σ
  | call (f : AV) (a : List AV) (σ : AS) : Fy fun G => G.call f a σ
  | bind {α β : Type} {A : Fns → Option α} {B : α → Fns → Option β} (hA : Fy A) (hB : ∀ a, Fy (B a)) : Fy fun G => (A G).bind fun a => B a G

theorem Fy.map {α β : Type} {A : Fns → Option α} (g : α → β) (hA : Fy A) : Fy fun G => (A G).map g := by
  have : (fun G => (A G).map g) = fun G => (A G).bind fun a => (fun _ => some (g a) : Fns → Option β) G := by
    funext G; cases A G <;> rfl
  rw [this]
  exact Fy.bind hA fun a => Fy.const _
theorem Fy.bif {α : Type} {b : Bool} {A B : Fns → Option α} (hA : Fy A) (hB : Fy B) : Fy fun G => bif b then A G else B G := by
  cases b
  · exact hB
  · exact hA

theorem fy_op (o : AOp) (tm : T AV) (σ : AS) : Fy fun G => opAny G o tm σ := by
  cases hc : callParts o with
  | none =>
    have : (fun G => opAny G o tm σ) = fun _ => opV o tm σ := by funext G; rw [opAny_none hc]
    rw [this]; exact Fy.const _
  | some p =>
    obtain ⟨f, l⟩ := p
    have : (fun G => opAny G o tm σ) = fun G => (opd f tm).bind fun f => (opds l tm).bind fun l => G.call f l σ := by funext G; rw [opAny_call hc]; rfl
    rw [this]
    exact Fy.bind (Fy.const _) fun _ => Fy.bind (Fy.const _) fun _ => Fy.call _ _ _
theorem fy_steps (base : Nat) : ∀ (l : List Stp) (tm : T AV) (σ : AS), Fy fun G => runSteps G base l tm σ
  | [], tm, σ => Fy.const (some (tm, σ))
  | s :: r, tm, σ => by
    cases s with
    | ex i o => exact Fy.bif (Fy.bind (fy_op _ _ _) fun a => fy_steps base r _ _) (fy_steps base r _ _)
    | re i o =>
      exact Fy.bif (Fy.bind (Fy.const (opV o.op tm σ)) fun a => Fy.bind (Fy.const (o.dst.bind fun d => tm.get d)) fun w => Fy.bif (fy_steps base r _ _) (Fy.const none)) (fy_steps base r _ _)
    | al i j o =>
      exact Fy.bif (Fy.bind (Fy.const (bif Nat.beq (cls o.op) 2 then opV o.op tm { σ with next := base + j } else none)) fun a => fy_steps base r _ _) (fy_steps base r _ _)
theorem fy_exec (c : ACode) (tm : T AV) (σ : AS) : Fy fun G => execC c G tm σ := by
  cases c with
  | skip => exact Fy.const _
  | label l => exact Fy.const _
  | exit j => exact Fy.const _
  | ret => exact Fy.const _
  | region d kept steps => exact Fy.map _ (fy_steps _ _ _ _)
  | seq a b =>
    refine Fy.bind (Fy.exec a tm σ) fun p => ?_
    obtain ⟨x, t, s⟩ := p
    cases x with
    | normal => exact Fy.exec _ _ _
    | exit j => exact Fy.const _
    | ret => exact Fy.const _
  | cond y a b =>
    refine Fy.bind (Fy.const (opd y tm)) fun v => ?_
    cases v with
    | bool t => cases t <;> exact Fy.exec _ _ _
    | _ => exact Fy.const _
  | block i b => exact Fy.map _ (Fy.exec _ _ _)
  | loop b =>
    refine Fy.bind (Fy.exec b tm σ) fun p => ?_
    obtain ⟨x, t, s⟩ := p
    cases x with
    | normal => exact Fy.exec _ _ _
    | exit j => exact Fy.const _
    | ret => exact Fy.const _
  | rangeFunc y ps a b =>
    refine Fy.bind (Fy.const (opd y tm)) fun v => Fy.bind (Fy.call _ _ _) fun p => ?_
    exact Fy.const _
  | scope b => exact Fy.exec _ _ _
theorem fy_callF (af : AFunc) (args : List AV) (σ : AS) : Fy fun G => callF G af args σ := by
  unfold callF
  refine Fy.bif (Fy.const _) (Fy.bif (Fy.bind (Fy.exec _ _ _) fun p => ?_) (Fy.bind (Fy.exec _ _ _) fun p => ?_))
  · exact Fy.const _
  · exact Fy.const _
theorem fy_call (ft : T AFunc) (f : AV) (args : List AV) (σ : AS) : Fy fun G => callV ft f G args σ := by
  cases f with
  | fn g a c => exact Fy.bind (Fy.const (ft.get g)) fun af => fy_callF _ _ _
  | yld l =>
    show Fy fun G => callYield G l args σ
    unfold callYield
    refine Fy.bif (Fy.const _) ?_
    cases σ.heap.get l with
    | none => exact Fy.const _
    | some o =>
      cases o with
      | cells _ _ => exact Fy.const _
      | map _ _ => exact Fy.const _
      | loop r =>
        refine Fy.bif (Fy.const _) (Fy.bind (Fy.const _) fun t => Fy.bind (Fy.exec _ _ _) fun p => ?_)
        obtain ⟨x, t, s⟩ := p
        cases x with
        | exit j => exact Fy.const _
        | ret => exact Fy.const _
        | normal =>
          show Fy fun G => yieldBody G l r.body t s
          unfold yieldBody
          cases s.heap.get l with
          | none => exact Fy.const _
          | some o =>
            cases o with
            | cells _ _ => exact Fy.const _
            | map _ _ => exact Fy.const _
            | loop r =>
              refine Fy.bif (Fy.const _) (Fy.map _ (Fy.exec _ _ _))
  | _ => exact Fy.const _
theorem fy_ans (ft : T AFunc) (O : Ora) (f : AV) (args : List AV) (σ : AS) : Fy fun G => ansV ft O f G args σ := by
  unfold ansV
  cases O f args σ with
  | some r => exact Fy.const _
  | none => exact fy_call _ _ _ _

structure FLe (G H : Fns) : Prop where
  exec : ∀ c tm σ r, G.exec c tm σ = some r → H.exec c tm σ = some r
  call : ∀ f a σ r, G.call f a σ = some r → H.call f a σ = some r
theorem FLe.refl (G : Fns) : FLe G G := ⟨fun _ _ _ _ h => h, fun _ _ _ _ h => h⟩
theorem FLe.trans {G H K : Fns} (h : FLe G H) (k : FLe H K) : FLe G K := ⟨fun _ _ _ _ e => k.exec _ _ _ _ (h.exec _ _ _ _ e), fun _ _ _ _ e => k.call _ _ _ _ (h.call _ _ _ _ e)⟩
theorem Fy.mono {α : Type} {F : Fns → Option α} (hF : Fy F) {G H : Fns} (h : FLe G H) : ∀ r, F G = some r → F H = some r := by
  induction hF with
  | const x => intro r e; exact e
  | exec c tm σ => exact h.exec c tm σ
  | call f a σ => exact h.call f a σ
  | bind _ _ ia ib =>
    intro r e
    obtain ⟨a, e1, e2⟩ := bind_some e
    simp only [ia _ e1, Option.bind_some]
    exact ib a _ e2

variable {ft : T AFunc} {O : Ora}
theorem it_le : ∀ m, FLe (itO ft O m) (itO ft O (m + 1))
  | 0 => ⟨fun _ _ _ _ h => (by cases h), fun _ _ _ _ h => (by cases h)⟩
  | m + 1 => ⟨fun c tm σ r h => (fy_exec c tm σ).mono (it_le m) r h, fun f a σ r h => (fy_ans ft O f a σ).mono (it_le m) r h⟩
theorem it_mono {m n : Nat} (h : m ≤ n) : FLe (itO ft O m) (itO ft O n) := by
  induction h with
  | refl => exact FLe.refl _
  | step _ ih => exact ih.trans (it_le _)

open Classical in
/-- The machine without fuel. -/
def lim (ft : T AFunc) (O : Ora) : Fns where
  exec c tm σ := if h : ∃ r m, (itO ft O m).exec c tm σ = some r then some (Classical.choose h) else none
  call f a σ := if h : ∃ r m, (itO ft O m).call f a σ = some r then some (Classical.choose h) else none
theorem lim_exec {c : ACode} {tm : T AV} {σ : AS} {r} : (lim ft O).exec c tm σ = some r ↔ ∃ m, (itO ft O m).exec c tm σ = some r := by
  constructor
  · intro h
    simp only [lim] at h
    split at h
    · rename_i hh; cases h; exact Classical.choose_spec hh
    · cases h
  · intro ⟨m, h⟩
    have hh : ∃ r m, (itO ft O m).exec c tm σ = some r := ⟨r, m, h⟩
    simp only [lim]
    rw [dif_pos hh]
    obtain ⟨n, h2⟩ := Classical.choose_spec hh
    have e1 := (it_mono (ft := ft) (O := O) (Nat.le_max_left m n)).exec _ _ _ _ h
    have e2 := (it_mono (ft := ft) (O := O) (Nat.le_max_right m n)).exec _ _ _ _ h2
    rw [e2] at e1; exact e1
theorem lim_call {f : AV} {a : List AV} {σ : AS} {r} : (lim ft O).call f a σ = some r ↔ ∃ m, (itO ft O m).call f a σ = some r := by
  constructor
  · intro h
    simp only [lim] at h
    split at h
    · rename_i hh; cases h; exact Classical.choose_spec hh
    · cases h
  · intro ⟨m, h⟩
    have hh : ∃ r m, (itO ft O m).call f a σ = some r := ⟨r, m, h⟩
    simp only [lim]
    rw [dif_pos hh]
    obtain ⟨n, h2⟩ := Classical.choose_spec hh
    have e1 := (it_mono (ft := ft) (O := O) (Nat.le_max_left m n)).call _ _ _ _ h
    have e2 := (it_mono (ft := ft) (O := O) (Nat.le_max_right m n)).call _ _ _ _ h2
    rw [e2] at e1; exact e1
theorem it_lim (m : Nat) : FLe (itO ft O m) (lim ft O) := ⟨fun _ _ _ _ h => lim_exec.2 ⟨m, h⟩, fun _ _ _ _ h => lim_call.2 ⟨m, h⟩⟩
theorem Fy.cont {α : Type} {F : Fns → Option α} (hF : Fy F) : ∀ r, F (lim ft O) = some r → ∃ m, F (itO ft O m) = some r := by
  induction hF with
  | const x => intro r e; exact ⟨0, e⟩
  | exec c tm σ => intro r e; exact lim_exec.1 e
  | call f a σ => intro r e; exact lim_call.1 e
  | bind hA hB ia ib =>
    intro r e
    obtain ⟨a, e1, e2⟩ := bind_some e
    obtain ⟨m, e3⟩ := ia _ e1
    obtain ⟨n, e4⟩ := ib a _ e2
    refine ⟨Nat.max m n, ?_⟩
    simp only [hA.mono (it_mono (Nat.le_max_left m n)) _ e3, Option.bind_some]
    exact (hB a).mono (it_mono (Nat.le_max_right m n)) _ e4
theorem opt_ext {α : Type} {x y : Option α} (h : ∀ r, x = some r ↔ y = some r) : x = y := by
  cases x with
  | none => cases y with
    | none => rfl
    | some b => exact absurd ((h b).2 rfl) (by simp)
  | some a => exact ((h a).1 rfl).symm
/-- The equations of the machine without fuel. -/
theorem exec_eq (c : ACode) (tm : T AV) (σ : AS) : (lim ft O).exec c tm σ = execC c (lim ft O) tm σ := by
  refine opt_ext fun r => ⟨fun h => ?_, fun h => ?_⟩
  · obtain ⟨m, h⟩ := lim_exec.1 h
    cases m with
    | zero => cases h
    | succ m => exact (fy_exec c tm σ).mono (it_lim m) r h
  · obtain ⟨m, h⟩ := (fy_exec c tm σ).cont r h
    exact lim_exec.2 ⟨m + 1, h⟩
theorem call_eq (f : AV) (a : List AV) (σ : AS) : (lim ft O).call f a σ = ansV ft O f (lim ft O) a σ := by
  refine opt_ext fun r => ⟨fun h => ?_, fun h => ?_⟩
  · obtain ⟨m, h⟩ := lim_call.1 h
    cases m with
    | zero => cases h
    | succ m => exact (fy_ans ft O f a σ).mono (it_lim m) r h
  · obtain ⟨m, h⟩ := (fy_ans ft O f a σ).cont r h
    exact lim_call.2 ⟨m + 1, h⟩

/-! It tells the truth. -/
variable {P : Program}
structure OraOK (P : Program) (O : Ora) : Prop where
  call : ∀ fv args σ v σ', O fv args σ = some (v, σ') → ∀ f w rf (rargs : Array Value), VR P f fv rf → VRs P f args rargs.toList → Rel P f σ w → Dom f σ → σ.floor ≤ σ.next →
    ∃ nx f0, (do let d ← Deferred.ofValue rf rargs; invoke d.target d.args : Sem Next).run P w = .ok nx w ∧ startOf P nx = some f0 ∧
      ∀ c cs, To P (lone f0 (c :: cs) w) (fun m => ∃ rv w' f', m = lone (c.finish rv) cs w' ∧ VR P f' v rv ∧ StR P f σ w f' σ' w')
  abs : ∀ fv args σ v σ', O fv args σ = some (v, σ') → Abs σ σ'
theorem it_sound (hmix : P.follows .mixedOrders = true) (hT : TableOK P ft) (hO : OraOK P O) : ∀ m, Sound P (itO ft O m) ∧ AbsOK (itO ft O m)
  | 0 => ⟨⟨fun _ _ _ _ _ _ h => (by cases h), fun _ _ _ _ _ h => (by cases h)⟩, ⟨fun _ _ _ _ _ _ h => (by cases h), fun _ _ _ _ _ h => (by cases h)⟩⟩
  | m + 1 => by
    obtain ⟨iS, iA⟩ := it_sound hmix hT hO m
    have hs := sound_step (draws_ok hmix) hT iS iA
    have ha := abs_step (ft := ft) iA
    refine ⟨⟨hs.exec, ?_⟩, ⟨ha.exec, ?_⟩⟩
    · intro fv args σ v σ' h
      have h : ansV ft O fv (itO ft O m) args σ = some (v, σ') := h
      unfold ansV at h
      cases ho : O fv args σ with
      | some r => rw [ho] at h; cases h; exact hO.call _ _ _ _ _ ho
      | none => rw [ho] at h; exact hs.call _ _ _ _ _ h
    · intro fv args σ v σ' h
      have h : ansV ft O fv (itO ft O m) args σ = some (v, σ') := h
      unfold ansV at h
      cases ho : O fv args σ with
      | some r => rw [ho] at h; cases h; exact hO.abs _ _ _ _ _ ho
      | none => rw [ho] at h; exact ha.call _ _ _ _ _ h
theorem lim_sound (hmix : P.follows .mixedOrders = true) (hT : TableOK P ft) (hO : OraOK P O) : Sound P (lim ft O) where
  exec c tm σ x tm' σ' h := by
    obtain ⟨m, h⟩ := lim_exec.1 h
    exact (it_sound hmix hT hO m).1.exec c tm σ x tm' σ' h
  call fv args σ v σ' h := by
    obtain ⟨m, h⟩ := lim_call.1 h
    exact (it_sound hmix hT hO m).1.call fv args σ v σ' h

end
end Go.AM
