/- What comes to the front of a drawn region stands apart from what it passes. -/
import Derived.Test.YtbapopkhebnbpaaAm28
namespace Go.AM
open Go
noncomputable section

variable {P : Program} {n kept : Nat} {ops : Array Oper} {steps A C : List Stp} {s q m : Stp} {D : List Nat} {i j : Nat} {S S1 S2 : List It}

/-- What is not done. -/
def todo (D : List Nat) (steps : List Stp) : List Stp := steps.filter fun s => !D.contains s.idx
theorem mem_todo : s ∈ todo D steps ↔ s ∈ steps ∧ s.idx ∉ D := by simp [todo]
theorem locate (h : stepsOf (S1 ++ .st s :: S2) = todo D steps) : ∃ A C, steps = A ++ s :: C ∧ todo D A = stepsOf S1 ∧ todo D C = stepsOf S2 ∧ s.idx ∉ D := by
  rw [stepsOf_append] at h
  have h : todo D steps = stepsOf S1 ++ s :: stepsOf S2 := h.symm
  obtain ⟨A, C, h1, h2, h3⟩ := List.filter_eq_append_iff.1 h
  obtain ⟨C1, C2, h4, h5, h6, h7⟩ := List.filter_eq_cons_iff.1 h3
  refine ⟨A ++ C1, C2, by rw [h1, h4]; simp, ?_, h7, by simpa using h6⟩
  unfold todo
  rw [List.filter_append, h2, List.filter_eq_nil_iff.2 (fun a ha => h5 a ha), List.append_nil]

theorem Canon.dst_eq (h : Canon P n ops kept steps) (hs : s ∈ steps) (hq : q ∈ steps) (e : s.idx = q.idx) : s.oper.dst = q.oper.dst := by
  obtain ⟨o, h1, h2⟩ := h.oper s hs
  obtain ⟨o', h3, h4⟩ := h.oper q hq
  rw [e, h3] at h1
  cases h1
  rw [h2.dst, h4.dst]

theorem Canon.apart (h : Canon P n ops kept steps) (hD : Closed ops D) (hi : ∀ e ∈ direct ops s.idx, e ∈ D) (hs : s.does = true) (e : steps = A ++ s :: C) (hq : q ∈ A) (hqD : q.idx ∉ D) :
    (∀ t ∈ looks s.oper, It.wr (.st q) ≠ some t) ∧ ∀ d, s.oper.dst = some d → d ∉ It.lk (.st q) ∧ It.wr (.st q) ≠ some d := by
  have pl := h.place e
  have hms : s ∈ steps := by rw [e]; simp
  have hmq : q ∈ steps := by rw [e]; simp [hq]
  have hA := pl.ahead_ q hq
  have hne : q.idx ≠ s.idx := fun e => pl.notA hs (by rw [← e]; exact hA)
  have h1 : ahead ops q.idx s.idx = false := by
    cases hh : ahead ops q.idx s.idx with
    | false => rfl
    | true => exact absurd (ahead_in hD hi hh) hqD
  have h2 : ahead ops s.idx q.idx = false := by
    cases hh : ahead ops s.idx q.idx with
    | false => rfl
    | true => exact absurd (ahead_in pl.closed (pl.closed _ hA) hh) (pl.notA hs)
  refine ⟨fun t ht hw => ?_, fun d hd => ⟨fun hm => ?_, fun hw => ?_⟩⟩
  · simp only [It.wr] at hw
    split at hw
    · rename_i hqd
      rcases (h.slots q hmq s hms hqd hs (Ne.symm hne) t hw).2 ht with hh | hh
      · rw [h1] at hh; cases hh
      · rw [h2] at hh; cases hh
    · cases hw
  · cases hqd : q.does with
    | true =>
      rcases List.mem_append.1 hm with hm | hm
      · rcases (h.slots s hms q hmq hs hqd hne d hd).2 hm with hh | hh
        · rw [h2] at hh; cases hh
        · rw [h1] at hh; cases hh
      · rw [hqd] at hm; simp at hm
    | false =>
      rcases List.mem_append.1 hm with hm | hm
      · cases q with
        | re i o =>
          have := h.re i o hmq s hms hs d hd hm
          have h2 : ahead ops s.idx i = false := h2
          rw [h2] at this; cases this
        | ex _ _ => cases hqd
        | al _ _ _ => cases hqd
      · rw [hqd] at hm
        have hm : q.oper.dst = some d := by simpa using hm
        obtain ⟨s', g1, g2, g3⟩ := mem_idxs.1 hA
        have hs' : s' ∈ steps := by rw [e]; simp [g1]
        have := (h.slots s hms s' hs' hs g2 (by rw [g3]; exact hne) d hd).1
        rw [h.dst_eq hs' hmq g3] at this
        exact this hm
  · simp only [It.wr] at hw
    split at hw
    · rename_i hqd
      exact (h.slots s hms q hmq hs hqd hne d hd).1 hw
    · cases hw

/-- What stands behind a read that is read anew writes none of what it looks at. -/
theorem Canon.later (h : Canon P n ops kept steps) (e : steps = A ++ q :: C) {o : AOper} (hre : .re q.idx o ∈ steps) (hm : m ∈ C) : ∀ x ∈ looks o ++ o.dst.toList, It.wr (.st m) ≠ some x := by
  have pl := h.place e
  have hmq : q ∈ steps := by rw [e]; simp
  have hmm : m ∈ steps := by rw [e]; simp [hm]
  intro x hx hw
  simp only [It.wr] at hw
  split at hw
  · rename_i hmd
    obtain ⟨l1, l2⟩ := pl.later m hm hmd
    rcases List.mem_append.1 hx with hx | hx
    · have ha := h.re _ o hre m hmm hmd x hw hx
      refine l1 (ahead_in pl.closed ?_ ha)
      cases hqd : q.does with
      | true => exact pl.pre hqd
      | false => exact pl.closed _ (pl.post hqd)
    · have hx : o.dst = some x := by simpa using hx
      have hs' : ∃ s' ∈ steps, s'.does = true ∧ s'.idx = q.idx := by
        cases hqd : q.does with
        | true => exact ⟨q, hmq, hqd, rfl⟩
        | false =>
          obtain ⟨s', g1, g2, g3⟩ := mem_idxs.1 (pl.post hqd)
          exact ⟨s', by rw [e]; simp [g1], g2, g3⟩
      obtain ⟨s', g1, g2, g3⟩ := hs'
      have := (h.slots m hmm s' g1 hmd g2 (by rw [g3]; exact Ne.symm l2) x hw).1
      have e2 : s'.oper.dst = o.dst := h.dst_eq (q := .re q.idx o) g1 hre g3
      rw [e2] at this
      exact this hx
  · cases hw

theorem reads_inv {oq : AOper} (h : It.reads (.st q) = some oq) : q.oper = oq ∧ q.loud = false ∧ q.makes = false ∧ q.looksMem = true ∧ (q.does = true → cls oq.op = 1) := by
  cases q with
  | ex i o =>
    have h : (bif Nat.beq (cls o.op) 1 then some o else none) = some oq := h
    obtain ⟨h1, h2⟩ := bif_some h
    cases h2
    have h2 := Nat.eq_of_beq_eq_true h1
    exact ⟨rfl, by simp only [Stp.loud, h2]; rfl, rfl, by simp only [Stp.looksMem, h2]; rfl, fun _ => h2⟩
  | re i o => cases h; exact ⟨rfl, rfl, rfl, rfl, fun h => by cases h⟩
  | al _ _ _ => cases h

theorem stepsOf_split {A C : List Stp} {s : Stp} : ∀ {S : List It}, stepsOf S = A ++ s :: C → ∃ S1 S2, S = S1 ++ .st s :: S2 ∧ stepsOf S1 = A ∧ stepsOf S2 = C := by
  intro S
  induction S generalizing A with
  | nil => intro h; simp [stepsOf] at h
  | cons x S ih =>
    intro h
    cases x with
    | lay b o =>
      obtain ⟨S1, S2, h1, h2, h3⟩ := ih h
      exact ⟨.lay b o :: S1, S2, by rw [h1]; rfl, h2, h3⟩
    | st t =>
      replace h : t :: stepsOf S = A ++ s :: C := h
      cases A with
      | nil => simp only [List.nil_append, List.cons.injEq] at h; obtain ⟨rfl, h⟩ := h; exact ⟨[], S, rfl, rfl, h⟩
      | cons a A =>
        simp only [List.cons_append, List.cons.injEq] at h
        obtain ⟨rfl, h⟩ := h
        obtain ⟨S1, S2, h1, h2, h3⟩ := ih h
        exact ⟨.st t :: S1, S2, by rw [h1]; rfl, by simp [stepsOf, h2], h3⟩

/-- The facts at one move to the front. -/
structure Front (ops : Array Oper) (D : List Nat) (s : Stp) (S1 S2 : List It) : Prop where
  ha : ∀ q ∈ S1, ∀ t ∈ looks s.oper, q.wr ≠ some t
  hb : ∀ q ∈ S1, ∀ d, s.oper.dst = some d → d ∉ q.lk ∧ q.wr ≠ some d

theorem Canon.front (h : Canon P n ops kept steps) (hD : Closed ops D) (hi : ∀ e ∈ direct ops s.idx, e ∈ D) (hs : s.does = true) (hS : stepsOf (S1 ++ .st s :: S2) = todo D steps) : Front ops D s S1 S2 := by
  obtain ⟨A, C, e, h1, h2, h3⟩ := locate hS
  have hq : ∀ q, It.st q ∈ S1 → q ∈ A ∧ q.idx ∉ D := fun q hq => by
    have := mem_stepsOf.2 hq
    rw [← h1] at this
    exact mem_todo.1 this
  refine ⟨fun q hqm t ht => ?_, fun q hqm d hd => ?_⟩
  · cases q with
    | lay _ _ => simp [It.wr]
    | st q => obtain ⟨k1, k2⟩ := hq q hqm; exact (h.apart hD hi hs e k1 k2).1 t ht
  · cases q with
    | lay _ _ => simp [It.wr, It.lk]
    | st q => obtain ⟨k1, k2⟩ := hq q hqm; exact (h.apart hD hi hs e k1 k2).2 d hd

/-- The step's closure. -/
theorem closed_cons (hD : Closed ops D) (hi : ∀ e ∈ direct ops i, e ∈ D) : Closed ops (i :: D) := fun x hx e he => by
  rcases List.mem_cons.1 hx with hx | hx
  · subst hx; exact List.mem_cons_of_mem _ (hi e he)
  · exact List.mem_cons_of_mem _ (hD x hx e he)

/-- Ahead of what is loud, or reads, nothing loud is left; ahead of what is loud nothing makes memory. -/
theorem Canon.clear (h : Canon P n ops kept steps) (hD : Closed ops D) (hi : ∀ e ∈ direct ops s.idx, e ∈ D) (hs : s.does = true) (hS : stepsOf (S1 ++ .st s :: S2) = todo D steps)
    (hk : s.loud = true ∨ (s.loud = false ∧ s.makes = false ∧ s.looksMem = true ∧ s.does = true)) :
    (∀ q, It.st q ∈ S1 → q.loud = false) ∧ (s.loud = true → ∀ q, It.st q ∈ S1 → q.makes = false) := by
  obtain ⟨A, C, e, h1, h2, h3⟩ := locate hS
  have pl := h.place e
  have hst := h.stages
  rw [e] at hst
  obtain ⟨_, k2, k3⟩ := stage_closed (closed_cons hD hi) (List.mem_cons_self ..) hk A _ _ hst
  have hq : ∀ q, It.st q ∈ S1 → q ∈ A ∧ q.idx ∉ s.idx :: D := fun q hq => by
    have := mem_stepsOf.2 hq
    rw [← h1] at this
    obtain ⟨g1, g2⟩ := mem_todo.1 this
    refine ⟨g1, fun hm => ?_⟩
    rcases List.mem_cons.1 hm with hm | hm
    · exact pl.notA hs (by rw [← hm]; exact pl.ahead_ q g1)
    · exact g2 hm
  have a1 : ∀ q, It.st q ∈ S1 → q.loud = false := fun q hqm => by
    obtain ⟨g1, g2⟩ := hq q hqm
    cases hl : q.loud with
    | false => rfl
    | true => exact absurd (k2 q g1 hl) g2
  refine ⟨a1, fun hsl q hqm => ?_⟩
  obtain ⟨g1, g2⟩ := hq q hqm
  cases hl : q.makes with
  | false => rfl
  | true => exact absurd (k3 hsl q g1 (a1 q hqm) hl) g2

/-- What is read ahead of a loud step comes to the same behind it. -/
theorem Canon.again (h : Canon P n ops kept steps) (hD : Closed ops D) (hi : ∀ e ∈ direct ops s.idx, e ∈ D) (hs : s.does = true) (hS : stepsOf (S1 ++ .st s :: S2) = todo D steps) (hl : s.loud = true) (hlay : layOK false (S1 ++ .st s :: S2)) :
    ∀ q ∈ S1, ∀ oq, q.reads = some oq → (∃ sq, q = .st sq ∧ .re sq.idx oq ∈ steps) ∧ Again s.oper S2 oq := by
  intro q hq oq hoq
  obtain ⟨A, C, e, h1, h2, h3⟩ := locate hS
  cases q with
  | lay _ _ => cases hoq
  | st q =>
    obtain ⟨r1, r2, r3, r4, r5⟩ := reads_inv hoq
    have hqA : q ∈ A ∧ q.idx ∉ D := by
      have := mem_stepsOf.2 hq
      rw [← h1] at this
      exact mem_todo.1 this
    have pl := h.place e
    have hmq : q ∈ steps := by rw [e]; simp [hqA.1]
    -- the step that does it
    obtain ⟨s', g1, g2, g3⟩ := mem_idxs.1 (pl.ahead_ q hqA.1)
    have hs' : s' ∈ steps := by rw [e]; simp [g1]
    have hs'r : It.reads (.st s') = some oq := by
      cases hqd : q.does with
      | true =>
        -- the same step
        obtain ⟨X, Y, hXY⟩ := List.append_of_mem hmq
        have plq := h.place hXY
        have : s' = q := by
          rw [hXY] at hs'
          rcases List.mem_append.1 hs' with hm | hm
          · exact absurd (mem_idxs.2 ⟨s', hm, g2, g3⟩) (plq.notA hqd)
          · rcases List.mem_cons.1 hm with hm | hm
            · exact hm
            · exact absurd g3 (plq.later s' hm g2).2
        rw [this]; exact hoq
      | false =>
        cases q with
        | ex _ _ => cases hqd
        | al _ _ _ => cases hqd
        | re k o =>
          cases hoq
          have e1 := h.twin k oq hmq s' hs' g3
          have hk := h.kind (.re k oq) hmq
          cases s' with
          | re _ _ => cases g2
          | ex k' o' =>
            have e1 : o' = oq := e1
            have hk : cls oq.op = 1 ∧ _ := hk
            subst e1
            simp only [It.reads, hk.1]; rfl
          | al k' j' o' =>
            have e1 : o' = oq := e1
            have hk' : cls o'.op = 2 ∧ _ := h.kind (.al k' j' o') hs'
            have hk : cls oq.op = 1 ∧ _ := hk
            rw [e1, hk.1] at hk'
            exact absurd hk'.1 (by decide)
    obtain ⟨t1, t2, t3, t4, t5⟩ := reads_inv hs'r
    obtain ⟨A0, A1, hA⟩ := List.append_of_mem g1
    have hst := h.stages
    rw [e] at hst
    have hst2 : okStages ops none false (A0 ++ s' :: (A1 ++ s :: C)) = true := by rw [hA] at hst; simpa using hst
    have hrd := stages_read A0 _ _ hst2 t2 t3 t4 g2
    have hD' := closed_cons hD hi
    obtain ⟨_, k2, _⟩ := stage_closed hD' (List.mem_cons_self ..) (.inl hl) A _ _ hst
    have hno : ∀ x, x ∈ s.idx :: D → ahead ops s'.idx x = false := fun x hx => by
      cases hh : ahead ops s'.idx x with
      | false => rfl
      | true =>
        have := ahead_in hD' (hD' x hx) hh
        rw [g3] at this
        rcases List.mem_cons.1 this with hm | hm
        · exact absurd (by rw [← hm]; exact pl.ahead_ q hqA.1) (pl.notA hs)
        · exact absurd hm hqA.2
    have hre := read_then (hno _ (List.mem_cons_self ..)) hl A1 (fun p hp hpl => hno _ (k2 p (by rw [hA]; simp [hp]) hpl)) hrd
    rw [g3] at hre
    obtain ⟨C1, o2, C2, hC, hC1⟩ := rereads_split hre
    have hmre : .re q.idx o2 ∈ steps := by rw [e, hC]; simp
    have ho2 : oq = o2 := by rw [← r1]; exact h.twin _ _ hmre q hmq rfl
    subst ho2
    have hsa := stages_after A _ _ hst hl
    rw [hC] at hsa
    obtain ⟨_, hmk⟩ := stages_made C1 _ _ hsa rfl rfl rfl hC1
    have hS2 : stepsOf S2 = todo D C1 ++ .re q.idx oq :: todo D C2 := by
      rw [← h2, hC]
      unfold todo
      have hqD : D.contains q.idx = false := by simpa using hqA.2
      rw [List.filter_append, List.filter_cons_of_pos]
      show (!D.contains q.idx) = true
      rw [hqD]; rfl
    obtain ⟨M, S3, m1, m2, m3⟩ := stepsOf_split hS2
    have hlay2 := hlay.after hl
    rw [m1] at hlay2
    have hMc : ∀ t, It.st t ∈ M → t ∈ C1 := fun t ht => by
      have := mem_stepsOf.2 ht
      rw [m2] at this
      exact (mem_todo.1 this).1
    obtain ⟨_, hMl⟩ := hlay2.before (s := .re q.idx oq) rfl rfl rfl (fun t ht => hC1 t (hMc t ht))
    have hkre := h.kind _ hmre
    refine ⟨⟨q, rfl, hmre⟩, ⟨M, q.idx, S3, m1, fun m hm => ?_, fun m hm x hx => ?_⟩, fun d hd => ?_, hkre.2⟩
    · obtain ⟨t, rfl, ht⟩ := hMl m hm
      have hc := hMc t hm
      have hts : t ∈ steps := by rw [e, hC]; simp [hc]
      have hk := h.kind t hts
      have hlt := hC1 t hc
      cases t with
      | re _ _ => trivial
      | al _ _ _ => cases ht
      | ex k o =>
        have hk : cls o.op ≠ 2 := hk
        have h3 : cls o.op ≠ 3 := fun e3 => by simp [Stp.loud, e3] at hlt
        show cls o.op = 0 ∨ cls o.op = 1
        have : cls o.op ≤ 3 := by generalize o.op = ao; cases ao <;> simp [cls]
        omega
    · obtain ⟨t, rfl, ht⟩ := hMl m hm
      have hc := hMc t hm
      obtain ⟨X, Y, hXY⟩ := List.append_of_mem hqA.1
      exact h.later (A := X) (q := q) (C := Y ++ s :: C) (by rw [e, hXY]; simp) hmre (by rw [hC]; simp [hc]) x hx
    · have := h.self _ hmre d hd
      exact this

end
end Go.AM
