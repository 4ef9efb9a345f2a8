/- Steps of a closed run, chained; a closed call, answered ahead. -/
import Derived.Test.YtbapopkhebnbpaaAm36
import Derived.KernelRfl
namespace Go.AM
open Go
noncomputable section
def ACode.fst : ACode → ACode
  | .seq a _ => a
  | c => c
def ACode.snd : ACode → ACode
  | .seq _ b => b
  | c => c
/-! Short words for printed states. -/
namespace Sh
def i (n : Int) : AV := .int .i64 n
def J (n : Int) : Option AV := some (.int .i64 n)
def C (l : List AV) : Option AObj := some (.cells l false)
def I (l : List Int) : Option AObj := some (.cells (l.map (.int .i64)) false)
def L {α : Type} (v : Option α) : T α := .n .e v .e
end Sh
def oraNone : Ora := fun _ _ _ => none
/-- The call of function g, without arguments, is answered by b. -/
def oraOf (g : Nat) (b : Bool) : Ora := fun f args σ =>
  match f, args with
  | .fn n [] [], [] => bif Nat.beq n g then some (.bool b, σ) else none
  | _, _ => none
variable {P : Program} {ft : T AFunc} {O : Ora}
theorem exec_seq {m : Nat} {c : ACode} {tm tm1 : T AV} {σ σ1 : AS} {r : Option (AExit × T AV × AS)} (hc : c = .seq c.fst c.snd) (h1 : (itO ft O m).exec c.fst tm σ = some (.normal, tm1, σ1))
    (h2 : (itO ft O m).exec c.snd tm1 σ1 = r) : (itO ft O (m + 1)).exec c tm σ = r := by
  rw [hc]
  show ((itO ft O m).exec c.fst tm σ).bind _ = r
  rw [h1]
  exact h2
def ACode.steps : ACode → List Stp
  | .region _ _ l => l
  | _ => []
def callAt (l : List Stp) (j : Nat) : AOpd × List AOpd :=
  match l.drop j with
  | .ex _ ⟨_, _, .call f a⟩ :: _ => (f, a)
  | _ => (.func 0, [])
theorem runSteps_append {G : Fns} {base : Nat} : ∀ (x y : List Stp) (tm : T AV) (σ : AS), runSteps G base (x ++ y) tm σ = (runSteps G base x tm σ).bind fun p => runSteps G base y p.1 p.2
  | [], y, tm, σ => rfl
  | s :: x, y, tm, σ => by
    have ih := runSteps_append (G := G) (base := base) x y
    have e : runSteps G base (x ++ y) = fun tm σ => (runSteps G base x tm σ).bind fun p => runSteps G base y p.1 p.2 := by funext t u; exact ih t u
    rw [List.cons_append, runSteps_cons, runSteps_cons, e]
    cases s with
    | ex i o =>
      show (bif wanted o.guard tm then _ else _) = (bif wanted o.guard tm then _ else _ : Option (T AV × AS)).bind _
      cases wanted o.guard tm
      · rfl
      · show (opAny G o.op tm σ).bind _ = ((opAny G o.op tm σ).bind _).bind _
        cases opAny G o.op tm σ <;> rfl
    | re i o =>
      show (bif wanted o.guard tm then _ else _) = (bif wanted o.guard tm then _ else _ : Option (T AV × AS)).bind _
      cases wanted o.guard tm
      · rfl
      · show (opV o.op tm σ).bind _ = ((opV o.op tm σ).bind _).bind _
        cases opV o.op tm σ with
        | none => rfl
        | some r =>
          show (o.dst.bind fun d => tm.get d).bind _ = ((o.dst.bind fun d => tm.get d).bind _).bind _
          cases (o.dst.bind fun d => tm.get d) with
          | none => rfl
          | some w =>
            show (bif r.1.beq w then _ else _) = (bif r.1.beq w then _ else _ : Option (T AV × AS)).bind _
            cases r.1.beq w <;> rfl
    | al i j o =>
      show (bif wanted o.guard tm then _ else _) = (bif wanted o.guard tm then _ else _ : Option (T AV × AS)).bind _
      cases wanted o.guard tm
      · rfl
      · show (bif Nat.beq (cls o.op) 2 then opV o.op tm { σ with next := base + j } else none).bind _ = ((bif Nat.beq (cls o.op) 2 then opV o.op tm { σ with next := base + j } else none).bind _).bind _
        cases (bif Nat.beq (cls o.op) 2 then opV o.op tm { σ with next := base + j } else none) <;> rfl
/-- A region with one call that is known. -/
theorem reg_call {m i k : Nat} {dr : Bool} {dst : Option Nat} {f : AOpd} {l : List AOpd} {pre post : List Stp} {c : ACode} {tm tm1 tm2 : T AV} {σ σ1 σ2 σ3 : AS} {fv v : AV} {lv : List AV}
    (hc : c = .region dr k (pre ++ .ex i ⟨dst, none, .call f l⟩ :: post)) (h1 : runSteps (itO ft O m) σ.next pre tm { σ with next := σ.next + k } = some (tm1, σ1)) (h2 : opd f tm1 = some fv) (h3 : opds l tm1 = some lv)
    (h4 : (itO ft O m).call fv lv σ1 = some (v, σ2)) (h5 : runSteps (itO ft O m) σ.next post (putD tm1 dst (some v)) σ2 = some (tm2, σ3)) : (itO ft O (m + 1)).exec c tm σ = some (.normal, tm2, σ3) := by
  rw [hc]
  show (runSteps (itO ft O m) σ.next (pre ++ .ex i ⟨dst, none, .call f l⟩ :: post) tm { σ with next := σ.next + k }).map _ = _
  rw [runSteps_append, h1]
  show (runSteps (itO ft O m) σ.next (.ex i ⟨dst, none, .call f l⟩ :: post) tm1 σ1).map _ = _
  rw [runSteps_cons]
  show (((opd f tm1).bind fun f => (opds l tm1).bind fun l => (itO ft O m).call f l σ1).bind fun p => runSteps (itO ft O m) σ.next post (putD tm1 dst (some p.1)) p.2).map _ = _
  rw [h2, h3]
  show (((itO ft O m).call fv lv σ1).bind fun p => runSteps (itO ft O m) σ.next post (putD tm1 dst (some p.1)) p.2).map _ = _
  rw [h4]
  show (runSteps (itO ft O m) σ.next post (putD tm1 dst (some v)) σ2).map _ = _
  rw [h5]; rfl
/-- A call whose body is known. -/
theorem call_body {m g : Nat} {af : AFunc} {a args c : List AV} {tm : T AV} {σ σ1 : AS} {x : AExit} {v : AV} (ho : O (.fn g a c) args σ = none) (hg : ft.get g = some af) (hn : Nat.beq (a ++ args ++ c).length af.nparams = true) (hp : af.pure = false)
    (h : (itO ft O m).exec af.body (setArgs (a ++ args ++ c) 0 .e) σ = some (x, tm, σ1)) (hx : ∀ j, x ≠ .exit j) (hv : resV tm σ1 af.results = some v) : (itO ft O (m + 1)).call (.fn g a c) args σ = some (v, σ1) := by
  show ansV ft O (.fn g a c) (itO ft O m) args σ = _
  unfold ansV
  rw [ho]
  show (ft.get g).bind _ = _
  rw [hg]
  show callF (itO ft O m) af (a ++ args ++ c) σ = _
  unfold callF
  rw [hn, hp]
  show ((itO ft O m).exec af.body (setArgs (a ++ args ++ c) 0 .e) σ).bind _ = _
  rw [h]
  cases x with
  | exit j => exact absurd rfl (hx j)
  | normal => show (resV tm σ1 af.results).map _ = _; rw [hv]; rfl
  | ret => show (resV tm σ1 af.results).map _ = _; rw [hv]; rfl
theorem oraNone_ok : OraOK P oraNone := ⟨fun _ _ _ _ _ h => (by cases h), fun _ _ _ _ _ h => (by cases h)⟩
theorem oraOf_inv {g : Nat} {b : Bool} {fv : AV} {args : List AV} {σ σ' : AS} {v : AV} (h : oraOf g b fv args σ = some (v, σ')) : fv = .fn g [] [] ∧ args = [] ∧ v = .bool b ∧ σ' = σ := by
  unfold oraOf at h
  split at h
  · rename_i n
    cases e : Nat.beq n g with
    | true =>
      rw [e] at h; cases h
      rw [Nat.eq_of_beq_eq_true e]
      exact ⟨rfl, rfl, rfl, rfl⟩
    | false => rw [e] at h; cases h
  · cases h
theorem oraOf_ok (hmix : P.follows .mixedOrders = true) (hT : TableOK P ft) {O : Ora} (hO : OraOK P O) {g m : Nat} {b : Bool} {af : AFunc} (hg : ft.get g = some af)
    (h : callF (itO ft O m) af [] ⟨.e, 0, 0⟩ = some (.bool b, ⟨.e, 0, 0⟩)) (hno : O (.fn g [] []) [] ⟨.e, 0, 0⟩ = none) : OraOK P (oraOf g b) where
  call fv args σ v σ' ho f w rf rargs hf ha hR hdom hfl := by
    obtain ⟨rfl, rfl, rfl, rfl⟩ := oraOf_inv ho
    have hc : (itO ft O (m + 1)).call (.fn g [] []) [] ⟨.e, 0, 0⟩ = some (.bool b, ⟨.e, 0, 0⟩) := by
      show ansV ft O (.fn g [] []) (itO ft O m) [] ⟨.e, 0, 0⟩ = _
      unfold ansV
      rw [hno]
      show (ft.get g).bind _ = _
      rw [hg]; exact h
    have hS := (it_sound hmix hT hO (m + 1)).1
    have hf0 : VR P (fun _ => none) (.fn g [] []) rf := by
      simp only [VR, VRs] at hf ⊢; exact hf
    have ha0 : VRs P (fun _ => none) [] rargs.toList := by simp only [VRs] at ha ⊢; exact ha
    obtain ⟨nx, f0, h1, h2, h3⟩ := hS.call _ _ _ _ _ hc (fun _ => none) w rf rargs hf0 ha0 ⟨fun b o e => (by cases e), fun b o e => (by cases e), fun _ _ _ _ _ _ e => (by cases e)⟩ (fun _ _ => rfl) (Nat.le_refl _)
    refine ⟨nx, f0, h1, h2, fun c cs => (h3 c cs).mono fun m hm => ?_⟩
    obtain ⟨rv, w', f', e1, e2, e3⟩ := hm
    refine ⟨rv, w', f, e1, by simpa only [VR] using e2, StR.grow hR (fun i hi => e3.kept i hi fun b o t e => (by cases e)) e3.sz e3.out e3.os⟩
  abs fv args σ v σ' ho := by
    obtain ⟨_, _, _, rfl⟩ := oraOf_inv ho
    exact Abs.refl _
theorem callF_pure {G : Fns} {af : AFunc} {args : List AV} {σ σ1 : AS} {tm : T AV} {x : AExit} {v : AV} (hn : args.length = af.nparams) (hp : af.pure = true)
    (h : G.exec af.body (setArgs args 0 .e) { σ with floor := σ.next } = some (x, tm, σ1)) (hx : ∀ j, x ≠ .exit j) (hv : resV tm σ1 af.results = some v) (hpl : v.plainRes = true) : callF G af args σ = some (v, σ) := by
  unfold callF
  have e : Nat.beq args.length af.nparams = true := by rw [hn]; exact Nat.beq_refl _
  rw [e, hp]
  show ((G.exec af.body (setArgs args 0 .e) { σ with floor := σ.next }).bind _) = _
  rw [h]
  cases x with
  | exit j => exact absurd rfl (hx j)
  | normal => show ((resV tm σ1 af.results).bind _) = _; rw [hv]; show (bif v.plainRes then _ else _) = _; rw [hpl]; rfl
  | ret => show ((resV tm σ1 af.results).bind _) = _; rw [hv]; show (bif v.plainRes then _ else _) = _; rw [hpl]; rfl
end
end Go.AM
