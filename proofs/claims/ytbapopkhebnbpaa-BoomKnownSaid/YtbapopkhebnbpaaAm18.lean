/- Operations in a region, and regions in text order. -/
import Derived.Test.YtbapopkhebnbpaaAm17
namespace Go.AM
open Go

variable {P : Program} {f f' : FM} {tm tm' : T AV} {σ σ' : AS} {w w' : World} {a : Act} {v : AV} {B : Base} {k : List Item} {cs : List Frame} {G : Fns} {N sz n : Nat} {ops : Array Oper}

theorem call_shape {ao : AOp} {op : Op} {x : AOpd} {xs : List AOpd} (h : okOp P ao op = true) (hc : callParts ao = some (x, xs)) :
    ∃ c g, op = .call c ∧ c.callee = .value g ∧ okO x g = true ∧ okOs xs c.args.toList = true := by
  cases ao <;> first | (cases hc; done) | skip
  cases hc
  cases op <;> first | (exact absurd h Bool.false_ne_true) | skip
  rename_i c
  obtain ⟨callee, args, ats⟩ := c
  cases callee <;> first | (exact absurd h Bool.false_ne_true) | skip
  rename_i g
  have h : (okO x g && okOs xs args.toList) = true := h
  rw [Bool.and_eq_true] at h
  exact ⟨_, g, rfl, rfl, h.1, h.2⟩

/-- One operation that is wanted. -/
theorem op_go (hS : Sound P G) {i : Nat} {rest : List Nat} {ao : AOper} {o : Oper} (ho : ops[i]? = some o) (hok : OperOK P n ops ao o) (hR : Rel P f σ w) (hdom : Dom f σ) (hfl : σ.floor ≤ σ.next) (ht : TR P f tm a.tmps)
    (hw : wanted ao.guard tm = true) (hv : opAny G ao.op tm σ = some (v, σ')) :
    To P (lone (B.fr a (.inRegion ops (i :: rest) :: k)) cs w) (fun m => ∃ rv w' f', m = lone (B.fr (a.put o.dst rv) (.inRegion ops rest :: k)) cs w' ∧ VR P f' v rv ∧ StR P f σ w f' σ' w') := by
  have hw' : Region.wanted o (yielded ops a.tmps) = true := by rw [wanted_eq hok ht]; exact hw
  have hnd := not_defer hok.op
  cases hc : callParts ao.op with
  | none =>
    rw [opAny_none hc] at hv
    rcases op_sound hc hR (fun b h1 _ => hdom b h1) hok.op ht hv with hout | ⟨rv, w', f', hrun, h1, h2⟩
    · exact hout.elim
    · exact To.step (st_op_value ho hw' hnd hrun) (To.here ⟨rv, w', f', rfl, h1, h2⟩)
  | some p =>
    obtain ⟨x, xs⟩ := p
    rw [opAny_call hc] at hv
    unfold opCall at hv
    replace hv := bind_some hv; obtain ⟨fv, h1, hv⟩ := hv
    replace hv := bind_some hv; obtain ⟨args, h2, hv⟩ := hv
    obtain ⟨c, g, h3, h4, h5, h6⟩ := call_shape hok.op hc
    have v1 := opd_sound h5 ht h1
    have v2 := opds_sound h6 ht h2
    obtain ⟨nx, f0, k1, k2, k3⟩ := hS.call _ _ _ _ _ hv f w (a.eval g) (c.args.map a.eval) v1 (by rw [Array.toList_map]; exact v2) hR hdom hfl
    have hex : (execOp a.eval o).run P w = .ok nx w := by
      rw [← k1]
      simp only [execOp, h3, resolve, h4]
    refine To.step (st_op_call ho hw' hnd hex k2) ((k3 _ _).mono fun m hm => ?_)
    obtain ⟨rv, w', f', e1, e2, e3⟩ := hm
    exact ⟨rv, w', f', by rw [e1, fin_fr ho], e2, e3⟩

theorem plain_go (hS : Sound P G) (hA : AbsOK G) (base : Nat) : ∀ (steps : List Stp) (opl : List Oper) (i : Nat) (f : FM) (tm : T AV) (σ : AS) (w : World) (a : Act), okPlain P n ops steps opl = true →
    (∀ j o, opl[j]? = some o → ops[i + j]? = some o) → runSteps G base steps tm σ = some (tm', σ') → Pre P f σ w N B sz tm a → n ≤ sz →
    To P (lone (B.fr a (.inRegion ops (List.range' i opl.length) :: k)) cs w) (fun m => ∃ a' w' f', m = lone (B.fr a' (.inRegion ops [] :: k)) cs w' ∧ Leaves P f σ w N B sz f' σ' w' tm' a')
  | [], [], i, f, tm, σ, w, a, _, _, hr, hp, _ => by
    rw [runSteps_nil] at hr; cases hr
    exact To.here ⟨a, w, f, rfl, hp.leaves⟩
  | [], _ :: _, _, _, _, _, _, _, h, _, _, _, _ => by cases h
  | .re _ _ :: _, _, _, _, _, _, _, _, h, _, _, _, _ => by cases h
  | .al _ _ _ :: _, _, _, _, _, _, _, _, h, _, _, _, _ => by cases h
  | .ex _ _ :: _, [], _, _, _, _, _, _, h, _, _, _, _ => by cases h
  | .ex i0 ao :: steps, o :: opl, i, f, tm, σ, w, a, h, hops, hr, hp, hn => by
    have h : (okOper P n ops ao o && okPlain P n ops steps opl) = true := h
    rw [Bool.and_eq_true] at h
    have hO := okOper_inv h.1
    have ho : ops[i]? = some o := by simpa using hops 0 o rfl
    have hops' : ∀ j o', opl[j]? = some o' → ops[i + 1 + j]? = some o' := fun j o' hj => by
      have := hops (j + 1) o' (by simpa using hj)
      rwa [show i + (j + 1) = i + 1 + j by omega] at this
    have hsm : ∀ x, o.dst = some x → x < a.tmps.size := fun x hx => by rw [hp.size]; exact Nat.lt_of_lt_of_le (hO.small x hx) hn
    rw [List.length_cons, List.range'_succ]
    rw [runSteps_cons] at hr
    simp only [doStp, exStp] at hr
    cases hw : wanted ao.guard tm with
    | false =>
      rw [hw] at hr
      simp only [cond_false] at hr
      have hw' : Region.wanted o (yielded ops a.tmps) = false := by rw [wanted_eq hO hp.tr]; exact hw
      refine To.step (st_op_skip ho hw') ?_
      refine plain_go hS hA base steps opl (i + 1) f _ σ w _ h.2 hops' hr ?_ hn
      exact ⟨hp.rel, hp.dom, hp.fl, by rw [hO.dst]; exact hp.tr.putD_none hsm, by rw [put_size]; exact hp.size, by rw [put_defers]; exact hp.defs, hp.low, fun hh => by rw [put_defers]; exact hp.rd hh⟩
    | true =>
      rw [hw] at hr
      simp only [cond_true] at hr
      replace hr := bind_some hr
      obtain ⟨⟨u, σ1⟩, h1, hr⟩ := hr
      refine (op_go hS ho hO hp.rel hp.dom hp.fl hp.tr hw h1).bind fun m hm => ?_
      obtain ⟨rv, w1, f1, rfl, e2, e3⟩ := hm
      have hp1 : Pre P f1 σ1 w1 N B sz (putD tm ao.dst (some u)) (a.put o.dst rv) :=
        ⟨e3.rel, e3.dom hp.dom, by rw [e3.fl]; exact Nat.le_trans hp.fl e3.nx, by rw [hO.dst]; exact (hp.tr.mono e3.sub).putD_some hsm e2, by rw [put_size]; exact hp.size,
          by rw [put_defers]; exact hp.defs.step hp.rel e3, Nat.le_trans hp.low e3.sz, fun hh => by rw [put_defers]; exact hp.rd hh⟩
      refine (plain_go hS hA base steps opl (i + 1) f1 _ σ1 w1 _ h.2 hops' hr hp1 hn).mono fun m hm => ?_
      obtain ⟨a2, w2, f2, rfl, e5⟩ := hm
      exact ⟨a2, w2, f2, rfl, ⟨e3.trans e5.st, e5.tr, e5.size, e5.defs, e5.rd⟩⟩

end Go.AM
