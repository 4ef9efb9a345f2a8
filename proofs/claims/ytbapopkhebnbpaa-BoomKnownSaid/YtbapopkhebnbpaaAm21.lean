/- Loops over functions. -/
import Derived.Test.YtbapopkhebnbpaaAm20
namespace Go.AM
open Go

variable {P : Program} {f f' : FM} {tm tm' : T AV} {σ σ' : AS} {w w' w1 : World} {a : Act} {v : AV} {B : Base} {k : List Item} {cs : List Frame} {c : Frame} {G : Fns} {N sz n : Nat} {it : Item} {x : AExit}

theorem alloc_size (w : World) (ob : Obj) : (w.alloc ob).heap.size = w.heap.size + 1 := by show (w.heap.push ob).size = _; simp

theorem enter_run (hp : Pre P f σ w N B sz tm a) (hr : RoundOK f σ B) (ps : Array Tmp) (as body : Code) :
    ∃ w1 mk r, (Instr.enterLoop B.fn a.tmps ps as body B.round).run P w = .ok (w1.heap.size, mk) (w1.alloc (.loop r)) ∧ (∀ i, i < w.heap.size → w1.heap[i]? = w.heap[i]?) ∧ w.heap.size ≤ w1.heap.size ∧ w1.output = w.output ∧ w1.os = w.os ∧
      r.state = .ready ∧ r.pending = none ∧ r.tmps = a.tmps ∧ r.params = ps ∧ r.assign = as ∧ r.body = body ∧ DefOK N w1 (mk ++ a.defers) ∧ (B.round.isSome = true → mk = []) := by
  cases hB : B.round with
  | none =>
    refine ⟨w.alloc (.deferred (some [])), [mark w.heap.size], ⟨.ready, none, B.fn, a.tmps, ps, as, body, w.heap.size⟩, ?_, fun i hi => alloc_old w _ hi, by rw [alloc_size]; omega, rfl, rfl, rfl, rfl, rfl, rfl, rfl, rfl, ?_, fun h => by simp at h⟩
    · simp only [Instr.enterLoop, Sem.run_bind, newObj, Sem.run, Result.andThen]
      rfl
    · obtain ⟨rs, h1, h2, h3⟩ := hp.defs
      refine ⟨w.heap.size :: rs, by rw [h1]; rfl, List.nodup_cons.2 ⟨fun hm => ?_, h2⟩, fun r hr => ?_⟩
      · have := (Array.getElem?_eq_some_iff.1 (h3 _ hm).2).1
        omega
      · rcases List.mem_cons.1 hr with e | e
        · subst e; exact ⟨hp.low, alloc_new w _⟩
        · exact ⟨(h3 r e).1, by rw [alloc_old w _ (Array.getElem?_eq_some_iff.1 (h3 r e).2).1]; exact (h3 r e).2⟩
  | some l0 =>
    obtain ⟨lb, l, t, h1, h2, h3, h4, h5⟩ := hr l0 hB
    obtain ⟨rb, off, rs, r, k1, k2, k3⟩ := hp.rel.obj lb _ h1
    rw [h4] at k1; cases k1
    have h5 : rb = l0 := h5
    subst h5
    refine ⟨w, [], ⟨.ready, none, B.fn, a.tmps, ps, as, body, r.defers⟩, ?_, fun _ _ => rfl, Nat.le_refl _, rfl, rfl, rfl, rfl, rfl, rfl, rfl, rfl, hp.defs, fun _ => rfl⟩
    simp only [Instr.enterLoop, Sem.run_bind, run_getLoop k2, newObj, Sem.run, Result.andThen]
    rfl

theorem c_range (hS : Sound P G) {y : AOpd} {ps : List Nat} {ca cb : ACode} {code : Code} (h : exRange y ps ca cb G tm σ = some (x, tm', σ')) (hok : okC P n (.rangeFunc y ps ca cb) code = true) (hs : Starts code it)
    (hp : Pre P f σ w N B sz tm a) (hn : n ≤ sz) (hr : noRange (.rangeFunc y ps ca cb) = true ∨ RoundOK f σ B) : To P (lone (B.fr a (it :: k)) cs w) (After P f σ w N B sz k cs x tm' σ') := by
  cases code <;> first | (exact absurd hok Bool.false_ne_true) | skip
  rename_i z qs da db
  have hit := starts_code hs (fun b e => by cases e)
  subst hit
  have hok : (okO y z && decide (ps = qs.toList) && ps.all (Nat.blt · n) && okC P n ca da && okC P n cb db && noRange ca) = true := hok
  simp only [Bool.and_eq_true, decide_eq_true_eq] at hok
  obtain ⟨⟨⟨⟨⟨o1, o2⟩, o3⟩, o4⟩, o5⟩, o6⟩ := hok
  have hr : RoundOK f σ B := hr.resolve_left (fun e => by cases e)
  obtain ⟨fv, h1, h⟩ := bind_some h
  obtain ⟨⟨u, σ1⟩, h2, h⟩ := bind_some h
  dsimp only at h
  split at h
  · rename_i r' hg
    obtain ⟨hb, h⟩ := bif_none h
    cases h
    obtain ⟨w1, mk, r, e1, e2, e3, e4, e5, r1, r2, r3, r4, r5, r6, e6, e7⟩ := enter_run hp hr qs da db
    have s1 : StR P f σ w f σ w1 := StR.grow hp.rel e2 e3 e4 e5
    have hd0 : f σ.next = none := hp.dom _ (Nat.le_refl _)
    have s2 : StR P f σ w1 (upd f σ.next (w1.heap.size, 0, 0)) (σ.alloc (.loop { busy := false, done := false, pending := .normal, tmps := tm, params := ps, assign := ca, body := cb })) (w1.alloc (.loop r)) := by
      refine StR.made s1.rel hd0 rfl (fun i hi => alloc_old w1 _ hi) (by rw [alloc_size]; omega) rfl rfl ?_
      refine ⟨w1.heap.size, 0, 0, r, upd_same f _ _, alloc_new w1 _, ?_, by rw [r2]; rfl, ⟨n, by rw [r5]; exact o4, by rw [r6]; exact o5, o3, by rw [r3, hp.size]; exact hn, o6⟩, by rw [r4]; exact o2, ?_⟩
      · rw [r1]; rfl
      · rw [r3]; exact hp.tr.mono (sub_upd _ hd0)
    have s12 := s1.trans s2
    have hdom := s12.dom hp.dom
    obtain ⟨nx, f0, k1, k2, k3⟩ := hS.call _ _ _ _ _ h2 _ _ (a.eval z) #[.func (.yield w1.heap.size) #[] #[]] ((opd_sound o1 hp.tr h1).mono s12.sub)
      (by simp only [VRs]; exact ⟨_, _, rfl, ⟨w1.heap.size, 0, 0, upd_same f _ _, rfl⟩, rfl⟩) s12.rel hdom (Nat.le_trans hp.fl (Nat.le_succ _))
    refine To.step (st_range e1 k1 k2) ((k3 (B.fr ⟨a.tmps, mk ++ a.defers⟩ (.inRangeFunc w1.heap.size :: k)) cs).bind fun m hm => ?_)
    obtain ⟨rv, w3, f3, g1, g2, g3⟩ := hm
    have g1 : m = lone (B.fr ⟨a.tmps, mk ++ a.defers⟩ (.endRangeFunc w1.heap.size :: k)) cs w3 := g1
    subst g1
    obtain ⟨rb, off, rs, rr, q1, q2, q3⟩ := g3.rel.obj _ _ hg
    have hq := g3.sub _ _ (upd_same f σ.next (w1.heap.size, 0, 0))
    rw [hq] at q1; cases q1
    have hst : rr.state ≠ .busy := by
      rw [q3.state, hb]
      cases r'.done <;> simp
    have s4 : StR P f3 σ1 w3 f3 { σ1 with heap := σ1.heap.put σ.next none } (putO w3 w1.heap.size (.loop { rr with state := .exhausted })) :=
      StR.gone g3.rel hg rfl (by rw [g3.fl]; exact hp.fl) hq (fun i hi => putO_other _ _ hi) putO_size' rfl rfl
    refine To.step (st_endRange q2 hst) (To.here ⟨⟨a.tmps, mk ++ a.defers⟩, _, f3, ?_, ((s12.trans g3).trans s4), hp.tr.mono ((s12.trans g3).trans s4).sub, hp.size, ?_, fun hh => ?_⟩)
    · have hpd := q3.pend
      cases hx : r'.pending with
      | normal => rw [hx] at hpd; have hpd : rr.pending = none := hpd; rw [hpd]; rfl
      | exit j => rw [hx] at hpd; have hpd : rr.pending = some (.exit j) := hpd; rw [hpd]; exact ⟨k, rfl, rfl⟩
      | ret => rw [hx] at hpd; have hpd : rr.pending = some .ret := hpd; rw [hpd]; exact ⟨k, rfl⟩
    · have e8 : DefOK N (w1.alloc (.loop r)) (mk ++ a.defers) := e6.step s1.rel s2
      exact (e8.step s12.rel g3).step g3.rel s4
    · rw [e7 hh, hp.rd hh]; rfl
  · cases h

end Go.AM
