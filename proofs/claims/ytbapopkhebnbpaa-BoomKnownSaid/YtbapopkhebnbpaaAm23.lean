/- Calls; the evaluator is sound, one step of fuel more. -/
import Derived.Test.YtbapopkhebnbpaaAm22
namespace Go.AM
open Go

variable {P : Program} {f f' : FM} {tm tm' : T AV} {σ σ' : AS} {w w' w1 : World} {a : Act} {v : AV} {B : Base} {k : List Item} {cs : List Frame} {c : Frame} {G : Fns} {N sz n : Nat} {it : Item} {x : AExit} {ft : T AFunc}

theorem VR.of_plain (h : v.plain = true) {rv : Value} (hv : VR P f v rv) : VR P f' v rv := by
  cases v <;> first | (cases h; done) | (simpa only [VR] using hv)
theorem VRs.of_plain : ∀ {l : List AV} {rl : List Value}, l.all AV.plain = true → VRs P f l rl → VRs P f' l rl
  | [], _, _, h => h
  | x :: l, _, hp, h => by
    rw [List.all_cons, Bool.and_eq_true] at hp
    simp only [VRs] at h ⊢
    obtain ⟨v, r, e, h1, h2⟩ := h
    exact ⟨v, r, e, h1.of_plain hp.1, VRs.of_plain hp.2 h2⟩
theorem VR.of_plainRes (h : v.plainRes = true) {rv : Value} (hv : VR P f v rv) : VR P f' v rv := by
  cases v with
  | tup l => simp only [VR] at hv ⊢; obtain ⟨a, e, h1⟩ := hv; exact ⟨a, e, h1.of_plain h⟩
  | agg l => simp only [VR] at hv ⊢; obtain ⟨a, e, h1⟩ := hv; exact ⟨a, e, h1.of_plain h⟩
  | _ => exact VR.of_plain (P := P) (f := f) (by first | exact h | (exact absurd h Bool.false_ne_true)) hv

/-- What is told of a call. -/
def CallOK (P : Program) (f : FM) (σ : AS) (w : World) (v : AV) (σ' : AS) (rf : Value) (rargs : Array Value) : Prop :=
  ∃ nx f0, (do let d ← Deferred.ofValue rf rargs; invoke d.target d.args : Sem Next).run P w = .ok nx w ∧ startOf P nx = some f0 ∧
    ∀ c cs, To P (lone f0 (c :: cs) w) (fun m => ∃ rv w' f', m = lone (c.finish rv) cs w' ∧ VR P f' v rv ∧ StR P f σ w f' σ' w')

theorem callF_sound (hS : Sound P G) {g : Nat} {af : AFunc} {fn : Func} (hfn : P.funcs[g]? = some fn) (hokF : okF P af fn = true) {args : List AV} (h : callF G af args σ = some (v, σ'))
    {rargs : Array Value} (ha : VRs P f args rargs.toList) (hR : Rel P f σ w) (hdom : Dom f σ) (hfl : σ.floor ≤ σ.next) (c : Frame) (cs : List Frame) :
    To P (lone (Frame.enter P g rargs .normal) (c :: cs) w) (fun m => ∃ rv w' f', m = lone (c.finish rv) cs w' ∧ VR P f' v rv ∧ StR P f σ w f' σ' w') := by
  unfold callF at h
  obtain ⟨hl, h⟩ := bif_none h
  have hl : args.length = af.nparams := by
    cases e : Nat.beq args.length af.nparams with
    | true => exact Nat.eq_of_beq_eq_true e
    | false => rw [e] at hl; cases hl
  cases hpu : af.pure with
  | true =>
    rw [hpu, cond_true] at h
    obtain ⟨⟨x, t, σ1⟩, h1, h⟩ := bind_some h
    have hx : ∀ j, x ≠ .exit j := fun j e => by subst e; cases h
    have h2 : ((resV t σ1 af.results).bind fun v => bif v.plainRes then some (v, σ) else none) = some (v, σ') := by
      cases x with
      | exit j => exact absurd rfl (hx j)
      | normal => exact h
      | ret => exact h
    obtain ⟨u, h3, h2⟩ := bind_some h2
    obtain ⟨hpl, h2⟩ := bif_some h2
    cases h2
    have hR0 : Rel P f { σ with floor := σ.next } w := ⟨hR.obj, hR.lt, hR.inj⟩
    refine (body_run hS hfn hokF hl h1 hx h3 ha hR0 hdom (Nat.le_refl _) c cs).mono fun m hm => ?_
    obtain ⟨rv, w', f', e1, e2, e3⟩ := hm
    refine ⟨rv, w', f, e1, e2.of_plainRes hpl, StR.grow hR (fun i hi => e3.kept i hi fun b o t g1 _ g3 _ => ?_) e3.sz e3.out e3.os⟩
    have := hR.lt b o g1
    have g3 : σ.next ≤ b := g3
    omega
  | false =>
    rw [hpu, cond_false] at h
    obtain ⟨⟨x, t, σ1⟩, h1, h⟩ := bind_some h
    have hx : ∀ j, x ≠ .exit j := fun j e => by subst e; cases h
    have h2 : ((resV t σ1 af.results).map fun v => (v, σ1)) = some (v, σ') := by
      cases x with
      | exit j => exact absurd rfl (hx j)
      | normal => exact h
      | ret => exact h
    obtain ⟨u, h3, h2⟩ := map_some h2
    cases h2
    exact body_run hS hfn hokF hl h1 hx h3 ha hR hdom hfl c cs

theorem run_callFunc {g : Nat} {fn : Func} {af : AFunc} (hfn : P.funcs[g]? = some fn) (hokF : okF P af fn = true) (args : Array Value) : (callFunc g args).run P w = .ok (.enter g args) w := by
  unfold okF at hokF
  split at hokF
  · rename_i code hcode
    simp only [Bool.and_eq_true, decide_eq_true_eq] at hokF
    simp [callFunc, program, Sem.run_bind, Sem.run, Result.andThen, hfn, hokF.2, hcode]
  · cases hokF

def TableOK (P : Program) (ft : T AFunc) : Prop := ∀ g af, ft.get g = some af → ∃ fn, P.funcs[g]? = some fn ∧ okF P af fn = true

theorem call_fn (hS : Sound P G) (hT : TableOK P ft) {g : Nat} {first cap args : List AV} (h : callFn ft g first cap G args σ = some (v, σ')) {rf : Value} {rargs : Array Value} (hf : VR P f (.fn g first cap) rf) (ha : VRs P f args rargs.toList)
    (hR : Rel P f σ w) (hdom : Dom f σ) (hfl : σ.floor ≤ σ.next) : CallOK P f σ w v σ' rf rargs := by
  obtain ⟨af, h1, h⟩ := bind_some h
  obtain ⟨fn, hfn, hokF⟩ := hT g af h1
  simp only [VR] at hf
  obtain ⟨ra, rc, e1, e2, e3⟩ := hf
  subst e1
  refine ⟨.enter g (ra ++ rargs ++ rc), _, ?_, rfl, fun c cs => callF_sound hS hfn hokF h (by simpa using (e2.append ha).append e3) hR hdom hfl c cs⟩
  simp only [Deferred.ofValue, pure_bind, invoke]
  exact run_callFunc hfn hokF _

theorem setParams_get : ∀ (ps : List Nat) (vs : List AV) (rvs : List Value) (tm tm' : T AV) (tmps : Array Value), setParams ps vs tm = some tm' → VRs P f vs rvs → TR P f tm tmps → ps.all (Nat.blt · tmps.size) = true →
    ps.length = rvs.length ∧ TR P f tm' ((ps.zip rvs).foldl (fun tmps (p : Nat × Value) => tmps.setIfInBounds p.1 p.2) tmps) ∧ ((ps.zip rvs).foldl (fun tmps (p : Nat × Value) => tmps.setIfInBounds p.1 p.2) tmps).size = tmps.size
  | [], [], rvs, tm, tm', tmps, h, hv, ht, _ => by
    cases h
    simp only [VRs] at hv
    subst hv
    exact ⟨rfl, ht, rfl⟩
  | [], _ :: _, _, _, _, _, h, _, _, _ => by cases h
  | _ :: _, [], _, _, _, _, h, _, _, _ => by cases h
  | p :: ps, v :: vs, rvs, tm, tm', tmps, h, hv, ht, hb => by
    simp only [VRs] at hv
    obtain ⟨rv, r, rfl, h1, h2⟩ := hv
    rw [List.all_cons, Bool.and_eq_true] at hb
    have hlt : p < tmps.size := by simpa [Nat.blt_eq] using hb.1
    have h : setParams ps vs (tm.put p (some v)) = some tm' := h
    obtain ⟨k1, k2, k3⟩ := setParams_get ps vs r _ tm' (tmps.setIfInBounds p rv) h h2 (ht.put_some hlt h1) (by simpa using hb.2)
    exact ⟨by simp [k1], k2, by rw [List.zip_cons_cons, List.foldl_cons, k3]; simp⟩

theorem call_yield (hS : Sound P G) (hA : AbsOK G) {l : Nat} {args : List AV} (h : callYield G l args σ = some (v, σ')) {rf : Value} {rargs : Array Value} (hf : VR P f (.yld l) rf) (ha : VRs P f args rargs.toList)
    (hR : Rel P f σ w) (hdom : Dom f σ) (hfl : σ.floor ≤ σ.next) : CallOK P f σ w v σ' rf rargs := by
  unfold callYield at h
  obtain ⟨hflo, h⟩ := bif_none h
  have hflo : σ.floor ≤ l := by
    cases e : Nat.ble σ.floor l with
    | true => exact Nat.le_of_ble_eq_true e
    | false => rw [e] at hflo; cases hflo
  split at h
  · rename_i r hg
    obtain ⟨_, h⟩ := bif_none h
    obtain ⟨t0, h0, h⟩ := bind_some h
    obtain ⟨⟨x1, t1, σ1⟩, h1, h⟩ := bind_some h
    have a1 := hA.exec _ _ _ _ _ _ h1
    cases x1 with
    | exit j => cases h
    | ret => cases h
    | normal =>
      dsimp only at h
      unfold yieldBody at h
      split at h
      · rename_i r1 hg1
        obtain ⟨hbd, h⟩ := bif_none h
        have hnb : r1.busy = false ∧ r1.done = false := by
          cases e1 : r1.busy <;> cases e2 : r1.done <;> first | exact ⟨rfl, rfl⟩ | (rw [e1, e2] at hbd; cases hbd)
        obtain ⟨⟨x2, t2, σ2⟩, h2, h⟩ := map_some h
        have a2 := hA.exec _ _ _ _ _ _ h2
        simp only [VR] at hf
        obtain ⟨rb, off, rs, hfl0, rfl⟩ := hf
        obtain ⟨rb', off', rs', rr, q1, q2, q3⟩ := hR.obj l _ hg
        rw [hfl0] at q1; cases q1
        obtain ⟨n, c1, c2, c3, c4, c5⟩ := q3.code
        have hps : r.params.all (Nat.blt · rr.tmps.size) = true := by
          rw [List.all_eq_true] at c3 ⊢
          intro p hp
          have := c3 p hp
          rw [Nat.blt_eq] at this ⊢
          omega
        obtain ⟨p1, p2, p3⟩ := setParams_get r.params args rargs.toList _ _ _ h0 ha q3.tmps hps
        have hzip : (rr.params.zip rargs).foldl (fun tmps (t, a) => tmps.setIfInBounds t a) rr.tmps = (r.params.zip rargs.toList).foldl (fun tmps (p : Nat × Value) => tmps.setIfInBounds p.1 p.2) rr.tmps := by
          rw [← Array.foldl_toList, Array.toList_zip, ← q3.params]
        have hrun : (do let d ← Deferred.ofValue (.func (.yield rb) #[] #[]) rargs; invoke d.target d.args : Sem Next).run P w = .ok (.round rb rr.fn ((rr.params.zip rargs).foldl (fun tmps (t, a) => tmps.setIfInBounds t a) rr.tmps) rr.assign rr.body) w := by
          have hsz : rargs.size = rr.params.size := by rw [← Array.length_toList, ← p1, q3.params, Array.length_toList]
          simp [Deferred.ofValue, invoke, Instr.yield, Sem.run_bind, run_getLoop q2, hsz, Result.andThen]
        refine ⟨_, _, hrun, rfl, fun c cs => ?_⟩
        rw [hzip]
        have hfr : Frame.round rb rr.fn ((r.params.zip rargs.toList).foldl (fun tmps (p : Nat × Value) => tmps.setIfInBounds p.1 p.2) rr.tmps) rr.assign rr.body .normal =
            (Base.mk rr.fn (some rb)).fr ⟨(r.params.zip rargs.toList).foldl (fun tmps (p : Nat × Value) => tmps.setIfInBounds p.1 p.2) rr.tmps, []⟩ [.code rr.assign, .beginRound, .code rr.body] := rfl
        rw [hfr]
        have hp : Pre P f σ w w.heap.size ⟨rr.fn, some rb⟩ rr.tmps.size t0 ⟨(r.params.zip rargs.toList).foldl (fun tmps (p : Nat × Value) => tmps.setIfInBounds p.1 p.2) rr.tmps, []⟩ :=
          ⟨hR, hdom, hfl, p2, p3, DefOK.nil _ _, Nat.le_refl _, fun _ => rfl⟩
        refine (hS.exec _ _ _ _ _ _ h1 n rr.assign c1 f w w.heap.size _ _ _ _ [.beginRound, .code rr.body] (c :: cs) (.inl rfl) hp c4 (.inl c5)).bind fun m hm => ?_
        obtain ⟨b1, w1, f1, e1, e2⟩ := hm
        have e1 : m = lone ((Base.mk rr.fn (some rb)).fr b1 [.beginRound, .code rr.body]) (c :: cs) w1 := e1
        subst e1
        have hq1 := e2.st.sub _ _ hfl0
        obtain ⟨rb1, off1, rs1, rr1, u1, u2, u3⟩ := e2.st.rel.obj l _ hg1
        rw [hq1] at u1; cases u1
        have hrdy : rr1.state = .ready := by rw [u3.state, hnb.1, hnb.2]; rfl
        have hfl1 : σ1.floor ≤ l := by rw [e2.st.fl]; exact hflo
        have s2 : StR P f1 σ1 w1 f1 { σ1 with heap := σ1.heap.put l (some (.loop { r1 with busy := true })) } (putO w1 rb (.loop { rr1 with state := .busy })) := by
          refine StR.turned e2.st.rel hg1 rfl hfl1 hq1 (fun i hi => putO_other _ _ hi) putO_size' rfl rfl ?_
          exact ⟨rb, off, rs, _, hq1, putO_get u2, ⟨rfl, u3.pend, u3.code, u3.params, u3.tmps⟩⟩
        have hl2 : Leaves P f σ w w.heap.size ⟨rr.fn, some rb⟩ rr.tmps.size f1 { σ1 with heap := σ1.heap.put l (some (.loop { r1 with busy := true })) } (putO w1 rb (.loop { rr1 with state := .busy })) t1 b1 :=
          ⟨e2.st.trans s2, e2.tr, e2.size, e2.defs.step e2.st.rel s2, e2.rd⟩
        have hlt : l < σ1.next := e2.st.rel.lt _ _ hg1
        refine To.step (st_beginRound rfl u2 hrdy) ((hS.exec _ _ _ _ _ _ h2 n rr.body c2 f1 _ w.heap.size _ _ _ _ [] (c :: cs) (.inl rfl) (hl2.pre hp) c4 (.inr fun l0 h0 => ?_)).bind fun m hm => ?_)
        · cases h0
          exact ⟨l, { r1 with busy := true }, _, by simp [T.get_put], rfl, hlt, hq1, rfl⟩
        obtain ⟨b2, w2, f2, g1, g2⟩ := hm
        have hq2 := g2.st.sub _ _ hq1
        have hg2 : σ2.heap.get l = some (.loop { r1 with busy := true }) := a2.loops l _ (by simp [T.get_put]) hlt rfl
        obtain ⟨rb2, off2, rs2, rr2, y1, y2, y3⟩ := g2.st.rel.obj l _ hg2
        rw [hq2] at y1; cases y1
        have hfl2 : σ2.floor ≤ l := by rw [g2.st.fl]; exact hfl1
        have fin : ∀ (j : Option Code) (ro : ALoop), LoopR P f2 ro { rr2 with state := if j.isNone then .ready else .done, pending := j } → ∀ k', Leaving k' j → m = lone ((Base.mk rr.fn (some rb)).fr b2 k') (c :: cs) w2 →
            To P m (fun m => ∃ rv w' f', m = lone (c.finish rv) cs w' ∧ VR P f' (.bool j.isNone) rv ∧ StR P f σ w f' { σ2 with heap := σ2.heap.put l (some (.loop ro)) } w') := by
          intro j ro hro k' hk' hm
          subst hm
          have s3 : StR P f2 σ2 w2 f2 { σ2 with heap := σ2.heap.put l (some (.loop ro)) } (putO w2 rb (.loop { rr2 with state := if j.isNone then .ready else .done, pending := j })) :=
            StR.turned g2.st.rel hg2 rfl hfl2 hq2 (fun i hi => putO_other _ _ hi) putO_size' rfl rfl ⟨rb, off, rs, _, hq2, putO_get y2, hro⟩
          exact To.step (st_endRound rfl y2 hk') (To.here ⟨_, _, f2, rfl, rfl, ((e2.st.trans s2).trans g2.st).trans s3⟩)
        cases x2 with
        | normal =>
          cases h
          exact fin none _ ⟨by simp [hnb.2], rfl, y3.code, y3.params, y3.tmps⟩ [] rfl g1
        | exit j =>
          cases h
          obtain ⟨k', g1, g3⟩ := g1
          exact fin (some (.exit j)) _ ⟨by simp, rfl, y3.code, y3.params, y3.tmps⟩ _ ⟨k', rfl, g3⟩ g1
        | ret =>
          cases h
          obtain ⟨k', g1⟩ := g1
          exact fin (some .ret) _ ⟨by simp, rfl, y3.code, y3.params, y3.tmps⟩ _ ⟨k', rfl⟩ g1
      · cases h
  · cases h

theorem sound_step (hD : DrawsOK P) (hT : TableOK P ft) (hS : Sound P G) (hA : AbsOK G) : Sound P (stepF ft G) where
  exec c tm σ x tm' σ' h n code hok f w N B sz a it k cs hs hp hn hr := by
    have h : execC c G tm σ = some (x, tm', σ') := h
    cases c with
    | skip =>
      cases code <;> first | (exact absurd hok Bool.false_ne_true) | skip
      have hit := starts_code hs (fun b e => by cases e)
      subst hit
      cases h
      exact To.step st_skip (To.here ⟨a, w, f, rfl, hp.leaves⟩)
    | label l =>
      cases code <;> first | (exact absurd hok Bool.false_ne_true) | skip
      have hit := starts_code hs (fun b e => by cases e)
      subst hit
      cases h
      exact To.step st_label (To.here ⟨a, w, f, rfl, hp.leaves⟩)
    | exit j =>
      cases code <;> first | (exact absurd hok Bool.false_ne_true) | skip
      have hit := starts_code hs (fun b e => by cases e)
      subst hit
      have hok := Nat.eq_of_beq_eq_true hok
      subst hok
      cases h
      exact To.here ⟨a, w, f, ⟨k, rfl, rfl⟩, hp.leaves⟩
    | ret =>
      cases code <;> first | (exact absurd hok Bool.false_ne_true) | skip
      have hit := starts_code hs (fun b e => by cases e)
      subst hit
      cases h
      exact To.here ⟨a, w, f, ⟨k, rfl⟩, hp.leaves⟩
    | region d kept steps => exact c_region hD hS hA h hok hs hp hn
    | seq c1 c2 => exact c_seq hS hA h hok hs hp hn hr
    | cond y c1 c2 => exact c_cond hS h hok hs hp hn hr
    | block i c1 => exact c_block hS h hok hs hp hn hr
    | loop c1 => exact c_loop hS hA h hok hs hp hn hr
    | rangeFunc y ps ca cb => exact c_range hS h hok hs hp hn hr
    | scope c1 => exact c_scope hS h hok hs hp hn hr
  call fv args σ v σ' h f w rf rargs hf ha hR hdom hfl := by
    have h : callV ft fv G args σ = some (v, σ') := h
    cases fv <;> first | (cases h; done) | skip
    case fn g first cap => exact call_fn hS hT h hf ha hR hdom hfl
    case yld l => exact call_yield hS hA h hf ha hR hdom hfl

theorem sound_fns (hD : DrawsOK P) (hT : TableOK P ft) (n : Nat) : Sound P (fns ft n) := by
  induction n with
  | zero => exact ⟨fun _ _ _ _ _ _ h => (by cases h), fun _ _ _ _ _ h => (by cases h)⟩
  | succ n ih => exact sound_step hD hT ih (abs_fns n)

end Go.AM
