/- From the small machine's word on a law to the given statement's frame. -/
import Derived.Test.YtbapopkhebnbpaaAm37
import Derived.ProofKit
namespace Go.AM
open Go Go.ChangeShapes Go.WideShapes Go.RowKit

variable {P : Program} {f f' : FM} {σ σ' : AS} {w w' : World} {v : AV} {G : Fns} {ft : T AFunc} {O : Ora}

/-- What is kept by a call that only makes memory. -/
def Kept (w w' : World) : Prop := (∀ i, i < w.heap.size → w'.heap[i]? = w.heap[i]?) ∧ w.heap.size ≤ w'.heap.size ∧ w'.output = w.output ∧ w'.os = w.os

theorem calls_pure (hS : Sound P G) (hT : TableOK P ft) {g : Nat} {af : AFunc} (hg : ft.get g = some af) (hp : af.pure = true) {args : List AV} {b : Bool} (h : callF G af args σ = some (.bool b, σ'))
    {rargs : Array Value} (ha : VRs P f args rargs.toList) (hR : Rel P f σ w) (hdom : Dom f σ) : Calls P g rargs w fun e w' => e = .returned (.bool b) ∧ Kept w w' := by
  obtain ⟨fn, hfn, hokF⟩ := hT g af hg
  unfold callF at h
  obtain ⟨hl, h⟩ := bif_none h
  have hl : args.length = af.nparams := by
    cases e : Nat.beq args.length af.nparams with
    | true => exact Nat.eq_of_beq_eq_true e
    | false => rw [e] at hl; cases hl
  rw [hp, cond_true] at h
  obtain ⟨⟨x, t, σ1⟩, h1, h⟩ := bind_some h
  have hx : ∀ j, x ≠ .exit j := fun j e => by subst e; cases h
  have h2 : ((resV t σ1 af.results).bind fun v => bif v.plainRes then some (v, σ) else none) = some (.bool b, σ') := by
    cases x with
    | exit j => exact absurd rfl (hx j)
    | normal => exact h
    | ret => exact h
  obtain ⟨u, h3, h2⟩ := bind_some h2
  obtain ⟨hpl, h2⟩ := bif_some h2
  cases h2
  have hR0 : Rel P f { σ with floor := σ.next } w := ⟨hR.obj, hR.lt, hR.inj⟩
  refine (body_calls hS hfn hokF hl h1 hx h3 ha hR0 hdom (Nat.le_refl _)).mono fun e w' he => ?_
  obtain ⟨rv, f', e1, e2, e3⟩ := he
  refine ⟨by rw [e1]; simp only [VR] at e2; rw [e2], fun i hi => e3.kept i hi fun b o t g1 _ g3 _ => ?_, e3.sz, e3.out, e3.os⟩
  have := hR.lt b o g1
  have g3 : σ.next ≤ b := g3
  omega

theorem it_callF {m : Nat} {af : AFunc} {args : List AV} {r : AV × AS} (h : callF (itO ft O m) af args σ = some r) : callF (lim ft O) af args σ = some r :=
  (fy_callF af args σ).mono (it_lim m) r h

section
variable {H : Type} {enc : TypeId × Value → H} {W W' : World}
theorem Kept.same (h : Kept W W') {p : MemPlace} (hp : p.block < W.heap.size) : W.sameAt W' p := by
  cases p with
  | cell b o => exact World.cell?_of_block (w := W) (h.1 b hp)
  | map b => exact h.1 b hp
theorem Kept.frame (h : Kept W W') (may : MemPlace → Prop) : W.keptBut W' may := by
  refine ⟨h.2.2.2, h.2.2.1, fun i hi => ?_⟩
  rw [h.1 i hi]
  split <;> simp_all
theorem Kept.trodAll (hl : laidOutB P = true) (h : Kept W W') : ∀ {ts : List TypeId} {vs : List Value} {ds : List (DataW H)} {ps : List MemPlace}, ts.all (fun t => P.readableRec t && decide (t < P.types.size)) = true →
    DataW.TrodAll enc P W 0 (fun _ => true) true ts vs ds ps → (∀ x ∈ ps, x.block < W.heap.size) → DataW.TrodAll enc P W' 0 (fun b => decide (b < W.heap.size)) true ts vs ds ps
  | [], [], [], _, _, h2, _ => h2
  | t :: ts, v :: vs, d :: ds, _, h1, ⟨p, q, h2, h3, e⟩, hlt => by
    simp only [List.all_cons, Bool.and_eq_true, decide_eq_true_eq] at h1
    subst e
    refine ⟨p, q, WideElems.Trod_stays hl h1.1.1 h1.1.2 h2 (fun x hx => h.same (hlt x (List.mem_append_left _ hx))) (fun x hx => by simpa using hlt x (List.mem_append_left _ hx)), ?_, rfl⟩
    exact Kept.trodAll hl h (by simpa using h1.2) h3 fun x hx => hlt x (List.mem_append_right _ hx)
theorem post_true (hl : laidOutB P = true) {fn : Func} {s : ChangeSpec} {args : Array Value} {ds gs : List (DataW H)} {before : List MemPlace} {t : TypeId}
    (hread : fn.params.toList.all (fun t => P.readableRec t && decide (t < P.types.size)) = true) (hv : s.vars = []) (hs : s.fn H (ds ++ gs) = { results := [.lit (.bool true)], args := ds })
    (hrt : fn.resultTypes = #[t]) (ht : P.underlying t = some .bool) (hW : DataW.Whole enc P fn.params.toList s.vars false W args.toList ds gs before) (hk : Kept W W') :
    s.post enc P fn false true false false W args (.bool true) W' := by
  have hlt : ∀ p ∈ before, p.block < W.heap.size := fun p hp => by simpa using hW.lt p hp
  obtain ⟨p, q, h1, h2, rfl, h3, h4⟩ := id hW
  rw [hv] at h2
  obtain ⟨rfl, rfl⟩ := trodVars_none h2
  rw [List.append_nil] at hlt
  refine ⟨ds, [], p ++ [], [], p, [], hW, ?_, ?_, ?_, hk.frame _, fun h => by cases h⟩
  · rw [hs, hrt]
    exact trodAll_mk1 ⟨1, by simp [DataW.trod, ht, Value.cells]⟩
  · rw [hs]
    exact hk.trodAll hl hread h1 hlt
  · rw [hv, hs]; exact rfl
end
end Go.AM
