/- What the check of a drawn region says. -/
import Derived.Test.YtbapopkhebnbpaaAm26
namespace Go.AM
open Go
noncomputable section

variable {P : Program} {n kept : Nat} {ops : Array Oper} {steps : List Stp} {D : List Nat} {i j : Nat}

theorem nodup_iff : ∀ {l : List Nat}, nodup l = true → l.Nodup
  | [], _ => List.nodup_nil
  | x :: r, h => by
    have h : (!r.contains x && nodup r) = true := h
    rw [Bool.and_eq_true] at h
    exact List.nodup_cons.2 ⟨fun hm => by simp [hm] at h, nodup_iff h.2⟩

def Closed (ops : Array Oper) (D : List Nat) : Prop := ∀ i ∈ D, ∀ j ∈ direct ops i, j ∈ D
theorem reach_closed (hD : Closed ops D) : ∀ (m i : Nat), (∀ e ∈ direct ops i, e ∈ D) → reach ops m j i = true → j ∈ D
  | 0, _, _, h => by cases h
  | m + 1, i, hi, h => by
    simp only [reach, List.any_eq_true, Bool.or_eq_true] at h
    obtain ⟨e, h1, h2⟩ := h
    rcases h2 with h2 | h2
    · have := Nat.eq_of_beq_eq_true h2; subst this; exact hi _ h1
    · exact reach_closed hD m e (hD e (hi e h1)) h2
theorem ahead_in (hD : Closed ops D) (hi : ∀ e ∈ direct ops i, e ∈ D) (h : ahead ops j i = true) : j ∈ D := reach_closed hD _ i hi h

theorem idxs_append : ∀ (A B : List Stp), idxs (A ++ B) = idxs A ++ idxs B
  | [], _ => rfl
  | s :: A, B => by
    simp only [List.cons_append, idxs]
    cases s.does
    · exact idxs_append A B
    · simp only [cond_true, List.cons_append]; rw [idxs_append A B]
theorem mem_idxs : ∀ {A : List Stp} {i : Nat}, i ∈ idxs A ↔ ∃ s ∈ A, s.does = true ∧ s.idx = i
  | [], i => by simp [idxs]
  | s :: A, i => by
    simp only [idxs]
    cases hs : s.does with
    | false =>
      simp only [cond_false, mem_idxs (A := A), List.mem_cons]
      constructor
      · rintro ⟨q, h1, h2⟩; exact ⟨q, .inr h1, h2⟩
      · rintro ⟨q, h1 | h1, h2, h3⟩
        · subst h1; rw [hs] at h2; cases h2
        · exact ⟨q, h1, h2, h3⟩
    | true =>
      simp only [cond_true, List.mem_cons, mem_idxs (A := A)]
      constructor
      · rintro (h | ⟨q, h1, h2⟩)
        · exact ⟨s, .inl rfl, hs, h.symm⟩
        · exact ⟨q, .inr h1, h2⟩
      · rintro ⟨q, h1 | h1, h2, h3⟩
        · subst h1; exact .inl h3.symm
        · exact .inr ⟨q, h1, h2, h3⟩

theorem order_split : ∀ (A B : List Stp) (done : List Nat), okOrder ops done (A ++ B) = true → Closed ops done → ∃ done', okOrder ops done' B = true ∧ (∀ x, x ∈ done' ↔ x ∈ done ∨ x ∈ idxs A) ∧ Closed ops done' ∧ ∀ q ∈ A, q.idx ∈ done'
  | [], B, done, h, hc => ⟨done, h, fun x => by simp [idxs], hc, fun q hq => by cases hq⟩
  | s :: A, B, done, h, hc => by
    have h : (bif s.does then (direct ops s.idx).all (done.contains ·) && okOrder ops (s.idx :: done) (A ++ B) else done.contains s.idx && okOrder ops done (A ++ B)) = true := h
    cases hs : s.does with
    | true =>
      rw [hs, cond_true, Bool.and_eq_true] at h
      have hd : ∀ e ∈ direct ops s.idx, e ∈ done := fun e he => by
        have := (List.all_eq_true.1 h.1) e he
        simpa using this
      obtain ⟨d', k1, k2, k3, k4⟩ := order_split A B (s.idx :: done) h.2 (fun x hx e he => by
        rcases List.mem_cons.1 hx with hx | hx
        · subst hx; exact List.mem_cons_of_mem _ (hd e he)
        · exact List.mem_cons_of_mem _ (hc x hx e he))
      refine ⟨d', k1, fun x => ?_, k3, fun q hq => ?_⟩
      · rw [k2]; simp only [idxs, hs, cond_true, List.mem_cons]
        constructor
        · rintro ((h | h) | h)
          · exact .inr (.inl h)
          · exact .inl h
          · exact .inr (.inr h)
        · rintro (h | (h | h))
          · exact .inl (.inr h)
          · exact .inl (.inl h)
          · exact .inr h
      · rcases List.mem_cons.1 hq with hq | hq
        · subst hq; exact (k2 _).2 (.inl (List.mem_cons_self ..))
        · exact k4 q hq
    | false =>
      rw [hs, cond_false, Bool.and_eq_true] at h
      have hd : s.idx ∈ done := by simpa using h.1
      obtain ⟨d', k1, k2, k3, k4⟩ := order_split A B done h.2 hc
      refine ⟨d', k1, fun x => ?_, k3, fun q hq => ?_⟩
      · rw [k2]; simp only [idxs, hs, cond_false]
      · rcases List.mem_cons.1 hq with hq | hq
        · subst hq; exact (k2 _).2 (.inl hd)
        · exact k4 q hq

theorem opdBeq_eq {x y : AOpd} (h : opdBeq x y = true) : x = y := by
  cases x <;> cases y <;> first | (exact absurd h Bool.false_ne_true) | skip
  · rw [Nat.eq_of_beq_eq_true h]
  · rw [AV.beq_eq _ _ h]
  · rw [Nat.eq_of_beq_eq_true h]
theorem readBeq_eq {x y : AOp} (h : readBeq x y = true) : x = y := by
  cases x <;> first | (exact absurd h Bool.false_ne_true) | skip
  case load s x =>
    cases y <;> first | (exact absurd h Bool.false_ne_true) | skip
    rename_i s' x'
    have h : (decide (s = s') && opdBeq x x') = true := h
    simp only [Bool.and_eq_true, decide_eq_true_eq] at h
    rw [h.1, opdBeq_eq h.2]
  case lookup a z m k o =>
    cases y <;> first | (exact absurd h Bool.false_ne_true) | skip
    rename_i a' z' m' k' o'
    have h : (Nat.beq a a' && z.beq z' && opdBeq m m' && opdBeq k k' && (o == o')) = true := h
    simp only [Bool.and_eq_true, beq_iff_eq] at h
    obtain ⟨⟨⟨⟨h1, h2⟩, h3⟩, h4⟩, h5⟩ := h
    rw [Nat.eq_of_beq_eq_true h1, AV.beq_eq _ _ h2, opdBeq_eq h3, opdBeq_eq h4, h5]
  case lenMap x =>
    cases y <;> first | (exact absurd h Bool.false_ne_true) | skip
    rw [opdBeq_eq h]
theorem operBeq_eq {x y : AOper} (h : operBeq x y = true) : x = y := by
  obtain ⟨a, b, c⟩ := x
  obtain ⟨a', b', c'⟩ := y
  have h : (decide (a = a') && decide (b = b') && readBeq c c') = true := h
  simp only [Bool.and_eq_true, decide_eq_true_eq] at h
  obtain ⟨⟨rfl, rfl⟩, h3⟩ := h
  rw [readBeq_eq h3]

/-- The check, in words. -/
structure Canon (P : Program) (n : Nat) (ops : Array Oper) (kept : Nat) (steps : List Stp) : Prop where
  oper : ∀ s ∈ steps, ∃ o, ops[s.idx]? = some o ∧ OperOK P n ops s.oper o
  kind : ∀ s ∈ steps, match s with | .ex _ o => cls o.op ≠ 2 | .re _ o => cls o.op = 1 ∧ o.dst.isSome = true | .al _ j o => cls o.op = 2 ∧ j < kept
  nd : (idxs steps).Nodup
  len : (idxs steps).length = ops.size
  alnd : (alNos steps).Nodup
  order : okOrder ops [] steps = true
  stages : okStages ops none false steps = true
  slots : ∀ s ∈ steps, ∀ q ∈ steps, s.does = true → q.does = true → q.idx ≠ s.idx → ∀ d, s.oper.dst = some d → q.oper.dst ≠ some d ∧ (d ∈ looks q.oper → ahead ops s.idx q.idx = true ∨ ahead ops q.idx s.idx = true)
  re : ∀ i o, .re i o ∈ steps → ∀ q ∈ steps, q.does = true → ∀ d, q.oper.dst = some d → d ∈ looks o → ahead ops q.idx i = true
  self : ∀ s ∈ steps, ∀ d, s.oper.dst = some d → d ∉ looks s.oper
  twin : ∀ i o, .re i o ∈ steps → ∀ q ∈ steps, q.idx = i → q.oper = o

theorem slots_spec (all : List Stp) : ∀ {l : List Stp}, okSlots ops all l = true → ∀ s ∈ l, ∀ q ∈ all, s.does = true → q.does = true → q.idx ≠ s.idx → ∀ d, s.oper.dst = some d →
    q.oper.dst ≠ some d ∧ (d ∈ looks q.oper → ahead ops s.idx q.idx = true ∨ ahead ops q.idx s.idx = true)
  | [], _, s, hs => by cases hs
  | s0 :: r, h, s, hs => by
    rw [okSlots, Bool.and_eq_true] at h
    rcases List.mem_cons.1 hs with e | hs
    · subst e
      intro q hq h1 h2 h3 d h4
      have := (List.all_eq_true.1 h.1) q hq
      have hb : Nat.beq q.idx s.idx = false := by
        cases hb : Nat.beq q.idx s.idx with
        | false => rfl
        | true => exact absurd (Nat.eq_of_beq_eq_true hb) h3
      rw [h1, h2, hb, h4] at this
      simp only [Bool.not_true, Bool.or_false, cond_false, Bool.and_eq_true, Bool.not_eq_true', decide_eq_false_iff_not] at this
      refine ⟨this.1, fun hm => ?_⟩
      have h5 := this.2
      have hm' : (looks q.oper).contains d = true := by simpa using hm
      rw [hm', cond_true, Bool.or_eq_true] at h5
      exact h5
    · exact slots_spec all h.2 s hs
theorem re_spec (all : List Stp) : ∀ {l : List Stp}, okRe ops all l = true → ∀ i o, .re i o ∈ l → ∀ q ∈ all, q.does = true → ∀ d, q.oper.dst = some d → d ∈ looks o → ahead ops q.idx i = true
  | [], _, i, o, hs => by cases hs
  | s0 :: r, h, i, o, hs => by
    have hr : okRe ops all r = true := by
      cases s0 with
      | re i o => rw [okRe, Bool.and_eq_true] at h; exact h.2
      | ex i o => exact h
      | al i j o => exact h
    rcases List.mem_cons.1 hs with e | hs
    · subst e
      intro q hq h1 d h2 h3
      rw [okRe, Bool.and_eq_true] at h
      have := (List.all_eq_true.1 h.1) q hq
      have hm' : (looks o).contains d = true := by simpa using h3
      rw [h1, h2] at this
      simp only [Bool.not_true, cond_false, hm', cond_true] at this
      exact this
    · exact re_spec all hr i o hs
theorem self_spec : ∀ {l : List Stp}, okSelf l = true → ∀ s ∈ l, ∀ d, s.oper.dst = some d → d ∉ looks s.oper
  | [], _, s, hs => by cases hs
  | s0 :: r, h, s, hs => by
    rw [okSelf, Bool.and_eq_true] at h
    rcases List.mem_cons.1 hs with e | hs
    · subst e
      intro d hd hm
      have h1 := h.1
      rw [hd] at h1
      simp [hm] at h1
    · exact self_spec h.2 s hs
theorem twin_spec (all : List Stp) : ∀ {l : List Stp}, okTwin all l = true → ∀ i o, .re i o ∈ l → ∀ q ∈ all, q.idx = i → q.oper = o
  | [], _, i, o, hs => by cases hs
  | s0 :: r, h, i, o, hs => by
    have hr : okTwin all r = true := by
      cases s0 with
      | re i o => rw [okTwin, Bool.and_eq_true] at h; exact h.2
      | ex i o => exact h
      | al i j o => exact h
    rcases List.mem_cons.1 hs with e | hs
    · subst e
      intro q hq hi
      rw [okTwin, Bool.and_eq_true] at h
      have := (List.all_eq_true.1 h.1) q hq
      rw [hi, Nat.beq_refl, cond_true] at this
      exact operBeq_eq this
    · exact twin_spec all hr i o hs

theorem canon_of (h : okDraw P n ops kept steps = true) : Canon P n ops kept steps := by
  unfold okDraw at h
  simp only [Bool.and_eq_true] at h
  obtain ⟨⟨⟨⟨⟨⟨⟨⟨⟨h1, h2⟩, h3⟩, h4⟩, h5⟩, h6⟩, h7⟩, h8⟩, h9⟩, h10⟩ := h
  have hst : ∀ s ∈ steps, okStp P n ops kept s = true := fun s hs => (List.all_eq_true.1 h1) s hs
  refine ⟨fun s hs => ?_, fun s hs => ?_, nodup_iff h2, Nat.eq_of_beq_eq_true h3, nodup_iff h4, h5, h6, slots_spec steps h7, re_spec steps h8, self_spec h9, twin_spec steps h10⟩
  · have := hst s hs
    unfold okStp at this
    rw [Bool.and_eq_true] at this
    have h := this.1
    split at h
    · rename_i o ho; exact ⟨o, ho, okOper_inv h⟩
    · cases h
  · have := hst s hs
    unfold okStp at this
    rw [Bool.and_eq_true] at this
    have h := this.2
    cases s with
    | ex i o =>
      intro e
      have h : (!Nat.beq (cls o.op) 2) = true := h
      rw [e] at h; cases h
    | re i o =>
      have h : (Nat.beq (cls o.op) 1 && o.dst.isSome) = true := h
      rw [Bool.and_eq_true] at h
      exact ⟨Nat.eq_of_beq_eq_true h.1, h.2⟩
    | al i j o =>
      have h : (Nat.beq (cls o.op) 2 && Nat.blt j kept) = true := h
      rw [Bool.and_eq_true] at h
      exact ⟨Nat.eq_of_beq_eq_true h.1, by simpa [Nat.blt_eq] using h.2⟩

/-- A place along the steps. -/
structure Place (ops : Array Oper) (A : List Stp) (s : Stp) (C : List Stp) : Prop where
  closed : Closed ops (idxs A)
  ahead_ : ∀ q ∈ A, q.idx ∈ idxs A
  pre : s.does = true → ∀ e ∈ direct ops s.idx, e ∈ idxs A
  post : s.does = false → s.idx ∈ idxs A
  notA : s.does = true → s.idx ∉ idxs A
  later : ∀ q ∈ C, q.does = true → q.idx ∉ idxs A ∧ q.idx ≠ s.idx
theorem Canon.place (h : Canon P n ops kept steps) {A C : List Stp} {s : Stp} (e : steps = A ++ s :: C) : Place ops A s C := by
  subst e
  obtain ⟨d, k1, k2, k3, k4⟩ := order_split A (s :: C) [] h.order (fun x hx => by cases hx)
  have hd : ∀ x, x ∈ d ↔ x ∈ idxs A := fun x => by rw [k2]; simp
  have hcl : Closed ops (idxs A) := fun x hx e he => (hd e).1 (k3 x ((hd x).2 hx) e he)
  have hnd := h.nd
  rw [idxs_append] at hnd
  have k1 : (bif s.does then (direct ops s.idx).all (d.contains ·) && okOrder ops (s.idx :: d) C else d.contains s.idx && okOrder ops d C) = true := k1
  refine ⟨hcl, fun q hq => (hd _).1 (k4 q hq), fun hs e he => ?_, fun hs => ?_, fun hs hm => ?_, fun q hq hqd => ⟨fun hm => ?_, fun hm => ?_⟩⟩
  · rw [hs, cond_true, Bool.and_eq_true] at k1
    have := (List.all_eq_true.1 k1.1) e he
    exact (hd e).1 (by simpa using this)
  · rw [hs, cond_false, Bool.and_eq_true] at k1
    exact (hd _).1 (by simpa using k1.1)
  · exact (List.nodup_append.1 hnd).2.2 _ hm _ (mem_idxs.2 ⟨s, List.mem_cons_self .., hs, rfl⟩) rfl
  · exact (List.nodup_append.1 hnd).2.2 _ hm _ (mem_idxs.2 ⟨q, List.mem_cons_of_mem _ hq, hqd, rfl⟩) rfl
  · cases hs : s.does with
    | true =>
      have h2 := (List.nodup_append.1 hnd).2.1
      simp only [idxs, hs, cond_true] at h2
      exact (List.nodup_cons.1 h2).1 (mem_idxs.2 ⟨q, hq, hqd, hm⟩)
    | false =>
      rw [hs, cond_false, Bool.and_eq_true] at k1
      have : s.idx ∈ idxs A := (hd _).1 (by simpa using k1.1)
      exact (List.nodup_append.1 hnd).2.2 _ this _ (mem_idxs.2 ⟨q, List.mem_cons_of_mem _ hq, hqd, hm⟩) rfl

end
end Go.AM
