/- A drawn region: each step of its schedule. -/
import Derived.Test.YtbapopkhebnbpaaAm31
namespace Go.AM
open Go
noncomputable section

variable {P : Program} {f f' f0 : FM} {σ σ' σ0 : AS} {w w' w0 : World} {tm : T AV} {G : Fns} {n kept N sz : Nat} {R : T AV × AS} {i : Nat} {B : Base} {a : Act} {k : List Item} {cs : List Frame} {ops : Array Oper} {steps : List Stp} {D : List Nat} {S S1 S2 : List It} {s : Stp}

theorem Canon.fine_of (h : Canon P n ops kept steps) {t : Stp} (ht : t ∈ steps) (h1 : t.loud = false) (h2 : t.makes = false) : It.fine (.st t) := by
  have hk := h.kind t ht
  cases t with
  | re i o =>
    refine ⟨trivial, fun i' o' e => ?_⟩
    cases e
    exact hk.1
  | al _ _ _ => cases h2
  | ex i o =>
    refine ⟨?_, fun i' o' e => by cases e⟩
    have hk : cls o.op ≠ 2 := hk
    have h3 : cls o.op ≠ 3 := fun e3 => by simp [Stp.loud, e3] at h1
    show cls o.op = 0 ∨ cls o.op = 1
    have : cls o.op ≤ 3 := by generalize o.op = ao; cases ao <;> simp [cls]
    omega
theorem layOK.quiet : ∀ {S1 S2 : List It}, (∀ q ∈ S1, ∃ t, q = .st t ∧ t.loud = false ∧ t.makes = false) → layOK false S2 → layOK false (S1 ++ S2)
  | [], _, _, h => h
  | q :: S1, S2, hq, h => by
    obtain ⟨t, rfl, h1, h2⟩ := hq q (List.mem_cons_self ..)
    show layOK false (.st t :: (S1 ++ S2))
    unfold layOK
    rw [if_neg (by rw [h1]; simp), if_neg (by rw [h2]; simp)]
    exact ⟨fun _ => rfl, layOK.quiet (fun q hq' => hq q (List.mem_cons_of_mem _ hq')) h⟩

theorem live_step (hS : Sound P G) (hc : Canon P n ops kept steps) (hL : Live P G n kept ops steps R f0 σ0 w0 N B sz D S f tm σ w a) (hdom0 : Dom f0 σ0) (hlow : N ≤ w0.heap.size) (hn : n ≤ sz) (hiD : i ∉ D) (hin : i ∈ idxs steps)
    (hi : ∀ e ∈ direct ops i, e ∈ D) (rest : List Nat) :
    To P (lone (B.fr a (.inRegion ops (i :: rest) :: k)) cs w) (fun m => ∃ a' w' f' tm' σ' S', m = lone (B.fr a' (.inRegion ops rest :: k)) cs w' ∧ Live P G n kept ops steps R f0 σ0 w0 N B sz (i :: D) S' f' tm' σ' w' a') := by
  obtain ⟨s, hms, hs, hsi⟩ := mem_idxs.1 hin
  subst hsi
  have hmS : It.st s ∈ S := mem_stepsOf.1 (by rw [hL.still]; exact mem_todo.2 ⟨hms, hiD⟩)
  obtain ⟨S1, S2, rfl⟩ := List.append_of_mem hmS
  have hF := hc.front hL.closed hi hs hL.still
  obtain ⟨o, ho, hok⟩ := hc.oper s hms
  have hdom : Dom f σ := hL.st.dom hdom0
  have hcl := closed_cons hL.closed hi
  have hna : n ≤ a.tmps.size := by rw [hL.size]; exact hn
  have hmem : ∀ q, It.st q ∈ S1 → q ∈ steps := fun q hq => by
    have : q ∈ stepsOf (S1 ++ .st s :: S2) := mem_stepsOf.2 (List.mem_append_left _ hq)
    rw [hL.still] at this
    exact (mem_todo.1 this).1
  have hids : ∀ {T : List Stp}, T = todo (s.idx :: D) steps → ∀ i j o, .al i j o ∈ T → j < kept ∧ f (σ0.next + j) = none := fun hT i j o hm => by
    subst hT
    rw [todo_cons] at hm
    have hm := (List.mem_filter.1 hm).1
    have hk := hc.kind _ (mem_todo.1 hm).1
    exact ⟨hk.2, hL.ids i j o (by rw [hL.still]; exact hm)⟩
  have hlays : lays (S1 ++ .st s :: S2) = lays (S1 ++ S2) := by rw [lays_append, lays_append]; rfl
  obtain ⟨l1, l2⟩ := hc.left (T1 := S1 ++ S2) hs hL.still rfl
  cases s with
  | re _ _ => cases hs
  | ex i ao =>
    have hk2 : cls ao.op ≠ 2 := hc.kind _ hms
    have hle : cls ao.op ≤ 3 := by generalize ao.op = x; cases x <;> simp [cls]
    by_cases h3 : cls ao.op = 3
    · -- a loud step
      have hl : Stp.loud (.ex i ao) = true := by simp only [Stp.loud, h3]; rfl
      obtain ⟨c1, c2⟩ := hc.clear hL.closed hi hs hL.still (.inl hl)
      have hfine : ∀ q, It.st q ∈ S1 → It.fine (.st q) := fun q hq => hc.fine_of (hmem q hq) (c1 q hq) (c2 hl q hq)
      obtain ⟨σ1, k1, k2, k3, k4, k5, k6⟩ := lays_out (.st (.ex i ao) :: S2) S1 [] σ (fun q hq => by cases hq) (fun q hq => by
        cases q with
        | st q => exact .inl (hfine q hq)
        | lay b o => exact .inr ⟨b, o, rfl⟩) hL.run hL.st hL.pend hL.apart
      have hmf : ∀ q, q ∈ S1.filter isSt → q ∈ S1 := fun q hq => (List.mem_filter.1 hq).1
      have hag := hc.again hL.closed hi hs hL.still hl hL.lay
      have hfq : ∀ q ∈ S1.filter isSt, ∃ t, q = .st t ∧ t.loud = false ∧ t.makes = false := fun q hq => by
        obtain ⟨g1, g2⟩ := List.mem_filter.1 hq
        cases q with
        | st q => exact ⟨q, rfl, c1 q g1, c2 hl q g1⟩
        | lay _ _ => cases g2
      obtain ⟨tm2, σ2, r1, r2⟩ := front_loud (S1 := S1.filter isSt) (S2 := S2) (o := ao) (i := i) (G := G) (base := σ0.next) (fun q hq => by
          obtain ⟨t, rfl, _⟩ := hfq q hq
          exact hfine t (hmf _ hq)) (fun q hq => hF.ha q (hmf q hq)) (fun q hq => hF.hb q (hmf q hq)) (fun q hq oq hoq => (hag q (hmf q hq) oq hoq).2) (fun A q C hAC oq hoq m hm => by
          have hqm : q ∈ S1.filter isSt := by rw [hAC]; simp
          obtain ⟨⟨sq, rfl, hre⟩, _⟩ := hag q (hmf q hqm) oq hoq
          obtain ⟨Ac, Cc, e, h1, h2, _⟩ := locate hL.still
          have hst : stepsOf (A ++ .st sq :: C) = todo D Ac := by rw [← hAC, stepsOf_isSt, h1]
          obtain ⟨A2, C2, e2, _, h5, _⟩ := locate hst
          obtain ⟨sm, rfl, _⟩ := hfq m (by rw [hAC]; simp [hm])
          have hsm := mem_stepsOf.2 hm
          rw [← h5] at hsm
          exact hc.later (A := A2) (q := sq) (C := C2 ++ .ex i ao :: Cc) (by rw [e, e2]; simp) hre (by simp [(mem_todo.1 hsm).1])) (by simpa using k1)
      refine (ex_real hS ho hok k2.rel (fun b hb => hdom b (by rw [← k3]; exact hb)) (by rw [k3, k4]; exact hL.fl) hL.tr hna r1).mono fun m hm => ?_
      obtain ⟨a', w', f', e1, e2, e3, e4, e5⟩ := hm
      obtain ⟨t1, t2⟩ := hc.left (T1 := S1.filter isSt ++ S2) hs hL.still (by rw [stepsOf_append, stepsOf_append, stepsOf_isSt])
      refine ⟨a', w', f', tm2, σ2, _, e1, Live.carry k2 (by rw [k3]; exact hL.nx) (by rw [k3, k4]; exact hL.fl) e3 t1 hcl ?_ (drop_re t2 r2) (hids t1) ?_ ?_ e2 (by rw [e5]; exact hL.size) (by rw [e4]; exact hL.defs) (by rw [e4]; exact hL.rd)⟩
      · exact (layOK.quiet hfq (hL.lay.after hl)).dropped fun q hq hi => re_light (t2 q hq hi)
      · intro x hx
        rw [lays_filter, lays_append, lays_isSt] at hx
        exact k5 x hx
      · rw [lays_filter, lays_append, lays_isSt]
        exact k6
    · have hl : Stp.loud (.ex i ao) = false := by
        cases hb : Stp.loud (.ex i ao) with
        | false => rfl
        | true => exact absurd (Nat.eq_of_beq_eq_true hb) h3
      have hcond : cls ao.op = 0 ∨ (cls ao.op = 1 ∧ ∀ q ∈ S1, q.quiet) := by
        by_cases h1 : cls ao.op = 1
        · have hm : Stp.looksMem (.ex i ao) = true := by simp only [Stp.looksMem, h1]; rfl
          obtain ⟨c1, _⟩ := hc.clear hL.closed hi hs hL.still (.inr ⟨hl, rfl, hm, rfl⟩)
          obtain ⟨_, c3⟩ := hL.lay.before hl rfl hm c1
          refine .inr ⟨h1, fun q hq => ?_⟩
          obtain ⟨t, rfl, ht⟩ := c3 q hq
          exact (hc.fine_of (hmem t hq) (c1 t hq) ht).1
        · exact .inl (by omega)
      obtain ⟨tm2, r1, r2⟩ := front_value hcond hF.ha hF.hb hL.run
      refine (ex_real hS ho hok hL.st.rel hdom hL.fl hL.tr hna r1).mono fun m hm => ?_
      obtain ⟨a', w', f', e1, e2, e3, e4, e5⟩ := hm
      refine ⟨a', w', f', tm2, σ, _, e1, Live.carry hL.st hL.nx hL.fl e3 l1 hcl ?_ (drop_re l2 r2) (hids l1) ?_ ?_ e2 (by rw [e5]; exact hL.size) (by rw [e4]; exact hL.defs) (by rw [e4]; exact hL.rd)⟩
      · exact (hL.lay.cut hl).dropped fun q hq hi => re_light (l2 q hq hi)
      · intro x hx
        rw [lays_filter, ← hlays] at hx
        exact hL.pend x hx
      · rw [lays_filter, ← hlays]
        exact hL.apart
  | al i j ao =>
    have hsm : ∀ x, o.dst = some x → x < a.tmps.size := fun x hx => Nat.lt_of_lt_of_le (hok.small x hx) hna
    have hk := hc.kind _ hms
    have hk : cls ao.op = 2 ∧ j < kept := hk
    have hid : f (σ0.next + j) = none := hL.ids i j ao (mem_stepsOf.2 hmS)
    rcases front_al hF.ha hF.hb hL.run with ⟨hw, r2⟩ | ⟨hw, v, sx, sy, _, hv, r2⟩
    · have hw' : Region.wanted o (yielded ops a.tmps) = false := by rw [wanted_eq hok hL.tr]; exact hw
      refine To.step (st_op_skip ho hw') (To.here ⟨_, w, f, _, σ, _, rfl, Live.carry hL.st hL.nx hL.fl (StR.refl hL.st.rel) l1 hcl ?_ (drop_re l2 r2) (hids l1) ?_ ?_ ?_ (by rw [put_size]; exact hL.size) (by rw [put_defers]; exact hL.defs) (by rw [put_defers]; exact hL.rd)⟩)
      · exact (hL.lay.cut rfl).dropped fun q hq hi => re_light (l2 q hq hi)
      · intro x hx
        rw [lays_filter, ← hlays] at hx
        exact hL.pend x hx
      · rw [lays_filter, ← hlays]
        exact hL.apart
      · have : o.dst = ao.dst := hok.dst.symm
        rw [this]
        exact hL.tr.putD_none (fun x hx => hsm x (this.trans hx))
    · have hw' : Region.wanted o (yielded ops a.tmps) = true := by rw [wanted_eq hok hL.tr]; exact hw
      have hnd := not_defer hok.op
      obtain ⟨ob, hrw, m1, m2⟩ := make_sound (id := σ0.next + j) hk.1 hok.op hL.tr hv
      obtain ⟨t, rv, w', m3, m4, m5⟩ := m2 w
      obtain ⟨m6, m7⟩ := m5 _ (sub_upd t hid) (upd_same f _ t)
      have hlt : σ0.next + j < σ.next := by have := hL.nx; omega
      have hstr : StR P f σ w (upd f (σ0.next + j) t) σ w' → True := fun _ => trivial
      have hT : stepsOf (S1 ++ .lay (σ0.next + j) ob :: S2) = stepsOf (S1 ++ S2) := by rw [stepsOf_append, stepsOf_append]; rfl
      obtain ⟨t1, t2⟩ := hc.left (T1 := S1 ++ .lay (σ0.next + j) ob :: S2) hs hL.still hT
      have hpe : ∀ x ∈ lays (S1 ++ S2), Pend P f σ w w0.heap.size x := by rw [← hlays]; exact hL.pend
      have hap : (lays (S1 ++ S2)).Pairwise (Apart2 f) := by rw [← hlays]; exact hL.apart
      refine To.step (st_op_value ho hw' hnd (.inl m3)) (To.here ⟨_, w', upd f (σ0.next + j) t, _, σ, _, rfl, ⟨t1, hcl, ?_, drop_re t2 (r2 ob m1), hL.st.early ⟨Nat.le_add_right _ _, hlt⟩ hid m4, hL.nx, hL.fl, fun i' j' o' hm => ?_, fun x hx => ?_, ?_, ?_, by rw [put_size]; exact hL.size, ?_, fun hh => by rw [put_defers]; exact hL.rd hh⟩⟩)
      · exact (hL.lay.laid rfl rfl).dropped fun q hq hi => re_light (t2 q hq hi)
      · rw [upd_other]
        · exact ((hids t1) i' j' o' hm).2
        · rw [t1] at hm
          obtain ⟨g1, g2⟩ := mem_todo.1 hm
          obtain ⟨A, C, e, _⟩ := locate hL.still
          have hne : j' ≠ j := by
            refine hc.alno e ?_ (i' := i') (o' := o')
            rw [e] at g1
            rcases List.mem_append.1 g1 with g1 | g1
            · exact List.mem_append_left _ g1
            · rcases List.mem_cons.1 g1 with g1 | g1
              · cases g1; exact absurd (List.mem_cons_self ..) g2
              · exact List.mem_append_right _ g1
          omega
      · rw [lays_filter, lays_append] at hx
        rcases List.mem_append.1 hx with hx | hx
        · exact (hpe x (by rw [lays_append]; exact List.mem_append_left _ hx)).early hL.st.rel hid m4
        · rcases List.mem_cons.1 hx with hx | hx
          · subst hx
            exact Pend.new hL.st.rel hid m4 hlt hL.st.sz hrw m6
          · exact (hpe x (by rw [lays_append]; exact List.mem_append_right _ hx)).early hL.st.rel hid m4
      · rw [lays_filter, lays_append]
        rw [lays_append] at hap hpe
        obtain ⟨p1, p2, p3⟩ := List.pairwise_append.1 hap
        refine List.pairwise_append.2 ⟨p1.imp_of_mem fun hx hy h => h.mono (hpe _ (List.mem_append_left _ hx)) (hpe _ (List.mem_append_left _ hy)) (sub_upd t hid), List.pairwise_cons.2 ⟨fun y hy => ?_, p2.imp_of_mem fun hx hy h => h.mono (hpe _ (List.mem_append_right _ hx)) (hpe _ (List.mem_append_right _ hy)) (sub_upd t hid)⟩, fun x hx y hy => ?_⟩
        · exact (Apart2.new (hpe y (List.mem_append_right _ hy)) hid m4).1
        · rcases List.mem_cons.1 hy with hy | hy
          · subst hy; exact (Apart2.new (hpe x (List.mem_append_left _ hx)) hid m4).2
          · exact (p3 x hx y hy).mono (hpe _ (List.mem_append_left _ hx)) (hpe _ (List.mem_append_right _ hy)) (sub_upd t hid)
      · have : o.dst = ao.dst := hok.dst.symm
        rw [this]
        exact (hL.tr.mono (sub_upd t hid)).putD_some (fun x hx => hsm x (this.trans hx)) m7
      · rw [put_defers]
        obtain ⟨rs, d1, d2, d3⟩ := hL.defs
        exact ⟨rs, d1, d2, fun r hr => ⟨(d3 r hr).1, by rw [m4.old r (Array.getElem?_eq_some_iff.1 (d3 r hr).2).1]; exact (d3 r hr).2⟩⟩

end
end Go.AM
