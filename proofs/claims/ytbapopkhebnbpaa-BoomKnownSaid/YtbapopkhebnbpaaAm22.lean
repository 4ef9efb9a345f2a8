/- Functions: frames, results, returns. -/
import Derived.Test.YtbapopkhebnbpaaAm21
namespace Go.AM
open Go

variable {P : Program} {f f' : FM} {tm tm' : T AV} {σ σ' : AS} {w w' w1 : World} {a : Act} {v : AV} {B : Base} {k : List Item} {cs : List Frame} {c : Frame} {G : Fns} {N sz n : Nat} {it : Item} {x : AExit}

/-! Results. -/
def resOf (tmps : Array Value) : ResultVar → Sem Value
  | .tmp t => pure (tmps.getD t undef)
  | .cell a t => do loadVar t (← asAddr (tmps.getD a undef))
theorem results_list (fn : Func) (tmps : Array Value) : results fn tmps = (do let l ← fn.results.toList.mapM (resOf tmps); pure (if h : l.toArray.size = 1 then l.toArray[0] else .tuple l.toArray)) := by
  have : results fn tmps = (do let vs ← fn.results.mapM (resOf tmps); pure (if h : vs.size = 1 then vs[0] else .tuple vs)) := by
    unfold results
    congr 1
  rw [this, Array.mapM_eq_mapM_toList, map_eq_pure_bind]
  simp only [bind_assoc, pure_bind]
theorem resOne_sound (h : Rel P f σ w) {ar : ARes} {r : ResultVar} {tmps : Array Value} (ht : TR P f tm tmps) (hok : okRes P [ar] [r] = true) (hv : resOne tm σ ar = some v) : ∃ rv, (resOf tmps r).run P w = .ok rv w ∧ VR P f v rv := by
  cases ar with
  | tmp t =>
    cases r with
    | cell _ _ => cases hok
    | tmp u =>
      have hok : (Nat.beq t u && true) = true := hok
      rw [Bool.and_true] at hok
      have hok := Nat.eq_of_beq_eq_true hok
      subst hok
      obtain ⟨rv, h1, h2⟩ := ht.1 t v hv
      exact ⟨rv, by simp [resOf, Array.getD_eq_getD_getElem?, h1], h2⟩
  | cell t s =>
    cases r with
    | tmp _ => cases hok
    | cell u ty =>
      have hok : (Nat.beq t u && okSz P ty s && true) = true := hok
      rw [Bool.and_true, Bool.and_eq_true] at hok
      have e := Nat.eq_of_beq_eq_true hok.1
      subst e
      obtain ⟨y, h1, h2⟩ := bind_some hv
      obtain ⟨rv, h3, h4⟩ := ht.1 t y h1
      obtain ⟨ad, rv2, k1, k2, k3⟩ := run_loadVar hok.2 h h4 h2
      exact ⟨rv2, by simp [resOf, Array.getD_eq_getD_getElem?, h3, k1, asAddr, k2], k3⟩
theorem resAll_sound (h : Rel P f σ w) {tmps : Array Value} (ht : TR P f tm tmps) : ∀ {l : List ARes} {r : List ResultVar} {vs : List AV}, okRes P l r = true → resAll tm σ l = some vs → ∃ rvs, (r.mapM (resOf tmps)).run P w = .ok rvs w ∧ VRs P f vs rvs
  | [], [], vs, _, hv => by cases hv; exact ⟨[], by simp, rfl⟩
  | [], _ :: _, _, hok, _ => by cases hok
  | .tmp _ :: _, [], _, hok, _ => by cases hok
  | .cell _ _ :: _, [], _, hok, _ => by cases hok
  | ar :: l, r :: rs, vs, hok, hv => by
    obtain ⟨v, h1, hv⟩ := bind_some hv
    obtain ⟨us, h2, hv⟩ := bind_some hv
    cases hv
    have hk : okRes P [ar] [r] = true ∧ okRes P l rs = true := by
      cases ar <;> cases r <;> simp only [okRes, Bool.and_eq_true, Bool.and_true] at hok ⊢ <;> first | (exact absurd hok Bool.false_ne_true) | exact ⟨by simp [hok], hok.2⟩ | exact ⟨by simp [hok.1], hok.2⟩
    obtain ⟨rv, k1, k2⟩ := resOne_sound h ht hk.1 h1
    obtain ⟨rvs, k3, k4⟩ := resAll_sound h ht hk.2 h2
    refine ⟨rv :: rvs, by simp [List.mapM_cons, Sem.run_bind, k1, k3, Result.andThen], ?_⟩
    simp only [VRs]
    exact ⟨rv, rvs, rfl, k2, k4⟩
theorem res_sound (h : Rel P f σ w) {tmps : Array Value} (ht : TR P f tm tmps) {l : List ARes} {fn : Func} (hok : okRes P l fn.results.toList = true) (hv : resV tm σ l = some v) : ∃ rv, (results fn tmps).run P w = .ok rv w ∧ VR P f v rv := by
  unfold resV at hv
  obtain ⟨vs, h1, h2⟩ := map_some hv
  obtain ⟨rvs, k1, k2⟩ := resAll_sound h ht hok h1
  rw [results_list]
  simp only [Sem.run_bind, k1, Result.andThen_ok]
  have hl := k2.length
  match vs, h2 with
  | [], h2 =>
    simp only [VRs] at k2
    subst k2 h2
    exact ⟨_, rfl, by simp [VR, VRs]⟩
  | [u], h2 =>
    have k2' := k2
    simp only [VRs] at k2'
    obtain ⟨r0, rr, e1, e2, e3⟩ := k2'
    subst e3 e1 h2
    exact ⟨_, rfl, by simpa using e2⟩
  | u1 :: u2 :: us, h2 =>
    subst h2
    have hne : ¬ rvs.toArray.size = 1 := by simp at hl ⊢; omega
    refine ⟨.tuple rvs.toArray, by simp only [dif_neg hne]; rfl, ?_⟩
    simp only [VR]
    exact ⟨_, rfl, by simpa using k2⟩

/-! The arguments of a frame. -/
theorem setArgs_get : ∀ (l : List AV) (j : Nat) (tm : T AV) (i : Nat), (setArgs l j tm).get i = if j ≤ i ∧ i < j + l.length then l[i - j]? else tm.get i
  | [], j, tm, i => by simp [setArgs]; omega
  | y :: l, j, tm, i => by
    rw [setArgs, setArgs_get l (j + 1), T.get_put]
    by_cases e : i = j
    · subst e; rw [if_neg (by omega), if_pos rfl, if_pos (by simp)]; simp
    · by_cases h1 : j + 1 ≤ i ∧ i < j + 1 + l.length
      · rw [if_pos h1, if_pos (by simp; omega)]
        rw [show i - j = (i - (j + 1)) + 1 by omega, List.getElem?_cons_succ]
      · rw [if_neg h1, if_neg e, if_neg (by simp; omega)]
theorem TR.args {args : List AV} {rargs : Array Value} (h : VRs P f args rargs.toList) (m : Nat) : TR P f (setArgs args 0 .e) (rargs ++ Array.replicate m undef) := by
  have hl : rargs.size = args.length := by rw [← Array.length_toList]; exact h.length
  refine ⟨fun i u hu => ?_, fun i hi => ?_⟩
  · rw [setArgs_get] at hu
    split at hu
    · rename_i hb
      obtain ⟨rv, h1, h2⟩ := h.get hu
      refine ⟨rv, ?_, h2⟩
      rw [Array.getElem?_append_left (by omega)]
      simpa using h1
    · simp at hu
  · rw [setArgs_get] at hi
    rw [Array.getD_eq_getD_getElem?]
    by_cases hb : i < args.length
    · rw [if_pos (by omega)] at hi
      simp at hi; omega
    · rw [Array.getElem?_append_right (by omega), Array.getElem?_replicate]
      split <;> rfl

/-! Returns. -/
theorem StR.patch (h : StR P f σ w f' σ' w') (hsz : w1.heap.size = w'.heap.size) (hout : w1.output = w'.output) (hos : w1.os = w'.os) (hw : ∀ i, w1.heap[i]? = w'.heap[i]? ∨ (w.heap.size ≤ i ∧ ∃ d, w'.heap[i]? = some (.deferred d))) : StR P f σ w f' σ' w1 where
  rel := by
    refine ⟨fun b o hg => ?_, h.rel.lt, h.rel.inj⟩
    obtain ⟨t, ht, hlt⟩ := (h.rel.obj b o hg).home
    refine (h.rel.obj b o hg).congr ht ?_
    rcases hw t.1 with e | ⟨_, d, e⟩
    · exact e
    · exact absurd rfl (image_ne h.rel hg ht e)
  sub := h.sub
  off := h.off
  nx := h.nx
  fl := h.fl
  sz := by rw [hsz]; exact h.sz
  kept rb hr hno := by
    rcases hw rb with e | ⟨e, _⟩
    · rw [e]; exact h.kept rb hr hno
    · omega
  fresh := h.fresh
  out := hout.trans h.out
  os := hos.trans h.os

theorem unwind_go : ∀ (rs : List Nat) (w : World), rs.Nodup → (∀ r ∈ rs, N ≤ r ∧ w.heap[r]? = some (.deferred (some []))) →
    ∃ w1, Steps P (lone (B.out ⟨a.tmps, rs.map mark⟩ k) cs w) (lone (B.out ⟨a.tmps, []⟩ k) cs w1) ∧ w1.heap.size = w.heap.size ∧ w1.output = w.output ∧ w1.os = w.os ∧ ∀ i, w1.heap[i]? = w.heap[i]? ∨ (N ≤ i ∧ ∃ d, w.heap[i]? = some (.deferred d))
  | [], w, _, _ => ⟨w, Steps.refl P _, rfl, rfl, rfl, fun _ => .inl rfl⟩
  | r :: rs, w, hnd, h => by
    obtain ⟨hr, hnd⟩ := List.nodup_cons.1 hnd
    obtain ⟨h1, h2⟩ := h r (List.mem_cons_self ..)
    have hst := st_mark (P := P) (B := B) (a := a) (k := k) (cs := cs) (ds := rs.map mark) h2
    obtain ⟨w1, k1, k2, k3, k4, k5⟩ := unwind_go rs (putO w r (.deferred none)) hnd (fun q hq => by
      obtain ⟨g1, g2⟩ := h q (List.mem_cons_of_mem _ hq)
      exact ⟨g1, by rw [putO_other _ _ (fun e => hr (by rw [← e]; exact hq))]; exact g2⟩)
    refine ⟨w1, (Steps.one hst).trans k1, k2.trans putO_size', k3, k4, fun i => ?_⟩
    by_cases e : i = r
    · subst e; exact .inr ⟨h1, _, h2⟩
    · have := k5 i
      rw [putO_other _ _ e] at this
      exact this

/-- A function's body, from its frame's start to its return. -/
theorem body_run (hS : Sound P G) {g : Nat} {af : AFunc} {fn : Func} (hfn : P.funcs[g]? = some fn) (hokF : okF P af fn = true) {args : List AV} {tm1 : T AV} (hn : args.length = af.nparams) (h : G.exec af.body (setArgs args 0 .e) σ = some (x, tm1, σ'))
    (hx : ∀ j, x ≠ .exit j) (hv : resV tm1 σ' af.results = some v) {rargs : Array Value} (ha : VRs P f args rargs.toList) (hR : Rel P f σ w) (hdom : Dom f σ) (hfl : σ.floor ≤ σ.next) (c : Frame) (cs : List Frame) :
    To P (lone (Frame.enter P g rargs .normal) (c :: cs) w) (fun m => ∃ rv w' f', m = lone (c.finish rv) cs w' ∧ VR P f' v rv ∧ StR P f σ w f' σ' w') := by
  unfold okF at hokF
  split at hokF
  · rename_i code hcode
    simp only [Bool.and_eq_true] at hokF
    obtain ⟨⟨⟨k1, k2⟩, k3⟩, _⟩ := hokF
    have k3 := Nat.le_of_ble_eq_true k3
    have hl : rargs.size = args.length := by rw [← Array.length_toList]; exact ha.length
    have hent : Frame.enter P g rargs .normal = (Base.mk g none).fr ⟨rargs ++ Array.replicate (fn.ntmps - rargs.size) undef, []⟩ [.code code] := by
      simp [Frame.enter, hfn, hcode, Base.fr]
    rw [hent]
    have hp : Pre P f σ w w.heap.size ⟨g, none⟩ fn.ntmps (setArgs args 0 .e) ⟨rargs ++ Array.replicate (fn.ntmps - rargs.size) undef, []⟩ :=
      ⟨hR, hdom, hfl, TR.args ha _, by simp; omega, DefOK.nil _ _, Nat.le_refl _, fun h => by simp at h⟩
    refine (hS.exec _ _ _ _ _ _ h fn.ntmps code k1 f w w.heap.size ⟨g, none⟩ fn.ntmps _ _ [] (c :: cs) (.inl rfl) hp (Nat.le_refl _) (.inr fun l0 h0 => by cases h0)).bind fun m hm => ?_
    obtain ⟨a1, w1, f1, e1, e2⟩ := hm
    have hlv : ∃ k', m = lone ((Base.mk g none).fr a1 k') (c :: cs) w1 ∧ (Leaving k' none ∨ Leaving k' (some .ret)) := by
      cases x with
      | exit j => exact absurd rfl (hx j)
      | normal => exact ⟨[], e1, .inl rfl⟩
      | ret => obtain ⟨k', e1⟩ := e1; exact ⟨_, e1, .inr ⟨k', rfl⟩⟩
    obtain ⟨k', rfl, hlv⟩ := hlv
    obtain ⟨rs, d1, d2, d3⟩ := e2.defs
    obtain ⟨w2, u1, u2, u3, u4, u5⟩ := unwind_go (P := P) (B := ⟨g, none⟩) (a := a1) (k := k') (cs := c :: cs) rs w1 d2 d3
    have hst : StR P f σ w f1 σ' w2 := e2.st.patch u2 u3 u4 u5
    obtain ⟨rv, r1, r2⟩ := res_sound hst.rel e2.tr k2 hv
    have hleave : ((Base.mk g none).out ⟨a1.tmps, []⟩ k').leaving P w2 (.returned rv) := ⟨rfl, rfl, rfl, fn, hfn, r1⟩
    refine To.step (st_leave rfl hlv) ?_
    have ea : a1 = ⟨a1.tmps, rs.map mark⟩ := by rw [← d1]
    rw [ea]
    exact To.steps u1 (To.step (step_leave_returned hleave) (To.here ⟨rv, w2, f1, rfl, r2, hst⟩))
  · cases hokF

end Go.AM
