/- The stages of a drawn region, and what is still to come of it. -/
import Derived.Test.YtbapopkhebnbpaaAm27
namespace Go.AM
open Go
noncomputable section

variable {P : Program} {n kept : Nat} {ops : Array Oper} {steps A C : List Stp} {s : Stp} {D : List Nat} {i j : Nat}

theorem nextLoud_split (hs : s.loud = true) : ∀ (A : List Stp), ∃ l, nextLoud (A ++ s :: C) = some l ∧ (l = s.idx ∨ ∃ q ∈ A, q.loud = true ∧ q.idx = l)
  | [] => ⟨s.idx, by simp [nextLoud, hs], .inl rfl⟩
  | a :: A => by
    cases ha : a.loud with
    | true => exact ⟨a.idx, by simp [nextLoud, ha], .inr ⟨a, List.mem_cons_self .., ha, rfl⟩⟩
    | false =>
      obtain ⟨l, h1, h2⟩ := nextLoud_split hs A
      refine ⟨l, by simpa [nextLoud, ha] using h1, h2.imp id ?_⟩
      rintro ⟨q, k1, k2⟩
      exact ⟨q, List.mem_cons_of_mem _ k1, k2⟩

/-- One step of the check of stages. -/
theorem stages_cons {last : Option Nat} {made : Bool} {r : List Stp} (h : okStages ops last made (s :: r) = true) :
    (s.loud = true ∧ (∀ l, last = some l → ahead ops l s.idx = true) ∧ okStages ops (some s.idx) false r = true) ∨
    (s.loud = false ∧ s.makes = true ∧ (∀ l, nextLoud r = some l → ahead ops s.idx l = true) ∧ okStages ops last true r = true) ∨
    (s.loud = false ∧ s.makes = false ∧ s.looksMem = true ∧ made = false ∧ (s.does = true → (∀ l, last = some l → ahead ops l s.idx = true) ∧ okRead ops s.idx r = true) ∧ okStages ops last made r = true) ∨
    (s.loud = false ∧ s.makes = false ∧ s.looksMem = false ∧ okStages ops last made r = true) := by
  unfold okStages at h
  cases h1 : s.loud with
  | true =>
    rw [h1, cond_true, Bool.and_eq_true] at h
    exact .inl ⟨rfl, fun l hl => by rw [hl] at h; exact h.1, h.2⟩
  | false =>
    rw [h1, cond_false] at h
    cases h2 : s.makes with
    | true =>
      rw [h2, cond_true, Bool.and_eq_true] at h
      exact .inr (.inl ⟨rfl, rfl, fun l hl => by rw [hl] at h; exact h.1, h.2⟩)
    | false =>
      rw [h2, cond_false] at h
      cases h3 : s.looksMem with
      | true =>
        rw [h3, cond_true, Bool.and_eq_true, Bool.and_eq_true] at h
        refine .inr (.inr (.inl ⟨rfl, rfl, rfl, by simpa using h.1.1, fun hd => ?_, h.2⟩))
        have h4 := h.1.2
        rw [hd, cond_true, Bool.and_eq_true] at h4
        exact ⟨fun l hl => by rw [hl] at h4; exact h4.1, h4.2⟩
      | false =>
        rw [h3, cond_false] at h
        exact .inr (.inr (.inr ⟨rfl, rfl, rfl, h⟩))

theorem stage_closed (hD : Closed ops D) (hs : s.idx ∈ D) (hk : s.loud = true ∨ (s.loud = false ∧ s.makes = false ∧ s.looksMem = true ∧ s.does = true)) : ∀ (A : List Stp) (last : Option Nat) (made : Bool), okStages ops last made (A ++ s :: C) = true →
    (∀ l, last = some l → l ∈ D) ∧ (∀ q ∈ A, q.loud = true → q.idx ∈ D) ∧ (s.loud = true → ∀ q ∈ A, q.loud = false → q.makes = true → q.idx ∈ D)
  | [], last, made, h => by
    refine ⟨fun l hl => ?_, fun q hq => (by cases hq), fun _ q hq => (by cases hq)⟩
    have h : okStages ops last made (s :: C) = true := h
    rcases stages_cons h with ⟨_, h2, _⟩ | ⟨e1, e2, _⟩ | ⟨_, _, _, _, h2, _⟩ | ⟨e1, _, e3, _⟩
    · exact ahead_in hD (hD _ hs) (h2 l hl)
    · rcases hk with hk | ⟨_, hk, _⟩
      · rw [hk] at e1; cases e1
      · rw [hk] at e2; cases e2
    · rcases hk with hk | ⟨_, _, _, hk⟩
      · rename_i e1 _ _ _ _; rw [hk] at e1; cases e1
      · exact ahead_in hD (hD _ hs) ((h2 hk).1 l hl)
    · rcases hk with hk | ⟨_, _, hk, _⟩
      · rw [hk] at e1; cases e1
      · rw [hk] at e3; cases e3
  | a :: A, last, made, h => by
    have h : okStages ops last made (a :: (A ++ s :: C)) = true := h
    rcases stages_cons h with ⟨e1, h2, h3⟩ | ⟨e1, e2, h2, h3⟩ | ⟨e1, e2, _, _, h2, h3⟩ | ⟨e1, e2, e3, h3⟩
    · obtain ⟨k1, k2, k3⟩ := stage_closed hD hs hk A _ _ h3
      have ha := k1 _ rfl
      refine ⟨fun l hl => ahead_in hD (hD _ ha) (h2 l hl), fun q hq hl => ?_, fun hsl q hq hl hm => ?_⟩
      · rcases List.mem_cons.1 hq with e | hq
        · subst e; exact ha
        · exact k2 q hq hl
      · rcases List.mem_cons.1 hq with e | hq
        · subst e; exact ha
        · exact k3 hsl q hq hl hm
    · obtain ⟨k1, k2, k3⟩ := stage_closed hD hs hk A _ _ h3
      refine ⟨k1, fun q hq hl => ?_, fun hsl q hq hl hm => ?_⟩
      · rcases List.mem_cons.1 hq with e | hq
        · subst e; rw [hl] at e1; cases e1
        · exact k2 q hq hl
      · rcases List.mem_cons.1 hq with e | hq
        · subst e
          obtain ⟨l, g1, g2⟩ := nextLoud_split (C := C) hsl A
          have hl2 : l ∈ D := by
            rcases g2 with g2 | ⟨p, g2, g3, g4⟩
            · rw [g2]; exact hs
            · rw [← g4]; exact k2 p g2 g3
          exact ahead_in hD (hD _ hl2) (h2 l g1)
        · exact k3 hsl q hq hl hm
    · obtain ⟨k1, k2, k3⟩ := stage_closed hD hs hk A _ _ h3
      refine ⟨k1, fun q hq hl => ?_, fun hsl q hq hl hm => ?_⟩
      · rcases List.mem_cons.1 hq with e | hq
        · subst e; rw [hl] at e1; cases e1
        · exact k2 q hq hl
      · rcases List.mem_cons.1 hq with e | hq
        · subst e; rw [hm] at e2; cases e2
        · exact k3 hsl q hq hl hm
    · obtain ⟨k1, k2, k3⟩ := stage_closed hD hs hk A _ _ h3
      refine ⟨k1, fun q hq hl => ?_, fun hsl q hq hl hm => ?_⟩
      · rcases List.mem_cons.1 hq with e | hq
        · subst e; rw [hl] at e1; cases e1
        · exact k2 q hq hl
      · rcases List.mem_cons.1 hq with e | hq
        · subst e; rw [hm] at e2; cases e2
        · exact k3 hsl q hq hl hm

/-- Where a read stands, what may be read anew is known. -/
theorem stages_read : ∀ (A : List Stp) (last : Option Nat) (made : Bool), okStages ops last made (A ++ s :: C) = true → s.loud = false → s.makes = false → s.looksMem = true → s.does = true → okRead ops s.idx C = true
  | [], last, made, h, h1, h2, h3, h4 => by
    have h : okStages ops last made (s :: C) = true := h
    rcases stages_cons h with ⟨e1, _⟩ | ⟨_, e2, _⟩ | ⟨_, _, _, _, h5, _⟩ | ⟨_, _, e3, _⟩
    · rw [h1] at e1; cases e1
    · rw [h2] at e2; cases e2
    · exact (h5 h4).2
    · rw [h3] at e3; cases e3
  | a :: A, last, made, h, h1, h2, h3, h4 => by
    have h : okStages ops last made (a :: (A ++ s :: C)) = true := h
    rcases stages_cons h with ⟨_, _, h5⟩ | ⟨_, _, _, h5⟩ | ⟨_, _, _, _, _, h5⟩ | ⟨_, _, _, h5⟩ <;> exact stages_read A _ _ h5 h1 h2 h3 h4
theorem stages_after : ∀ (A : List Stp) (last : Option Nat) (made : Bool), okStages ops last made (A ++ s :: C) = true → s.loud = true → okStages ops (some s.idx) false C = true
  | [], last, made, h, h1 => by
    have h : okStages ops last made (s :: C) = true := h
    rcases stages_cons h with ⟨_, _, h5⟩ | ⟨e1, _⟩ | ⟨e1, _⟩ | ⟨e1, _⟩
    · exact h5
    all_goals (rw [h1] at e1; cases e1)
  | a :: A, last, made, h, h1 => by
    have h : okStages ops last made (a :: (A ++ s :: C)) = true := h
    rcases stages_cons h with ⟨_, _, h5⟩ | ⟨_, _, _, h5⟩ | ⟨_, _, _, _, _, h5⟩ | ⟨_, _, _, h5⟩ <;> exact stages_after A _ _ h5 h1
/-- Between a loud step and what is read anew, nothing is made. -/
theorem stages_made : ∀ (A : List Stp) (last : Option Nat) (made : Bool), okStages ops last made (A ++ s :: C) = true → s.loud = false → s.makes = false → s.looksMem = true → (∀ q ∈ A, q.loud = false) → made = false ∧ ∀ q ∈ A, q.makes = false
  | [], last, made, h, h1, h2, h3, _ => by
    have h : okStages ops last made (s :: C) = true := h
    rcases stages_cons h with ⟨e1, _⟩ | ⟨_, e2, _⟩ | ⟨_, _, _, h5, _⟩ | ⟨_, _, e3, _⟩
    · rw [h1] at e1; cases e1
    · rw [h2] at e2; cases e2
    · exact ⟨h5, fun q hq => by cases hq⟩
    · rw [h3] at e3; cases e3
  | a :: A, last, made, h, h1, h2, h3, hl => by
    have h : okStages ops last made (a :: (A ++ s :: C)) = true := h
    have hl' : ∀ q ∈ A, q.loud = false := fun q hq => hl q (List.mem_cons_of_mem _ hq)
    rcases stages_cons h with ⟨e1, _⟩ | ⟨_, _, _, h5⟩ | ⟨_, e2, _, _, _, h5⟩ | ⟨_, e2, _, h5⟩
    · rw [hl a (List.mem_cons_self ..)] at e1; cases e1
    · have := (stages_made A _ _ h5 h1 h2 h3 hl').1; cases this
    · obtain ⟨k1, k2⟩ := stages_made A _ _ h5 h1 h2 h3 hl'
      refine ⟨k1, fun q hq => ?_⟩
      rcases List.mem_cons.1 hq with e | hq
      · subst e; exact e2
      · exact k2 q hq
    · obtain ⟨k1, k2⟩ := stages_made A _ _ h5 h1 h2 h3 hl'
      refine ⟨k1, fun q hq => ?_⟩
      rcases List.mem_cons.1 hq with e | hq
      · subst e; exact e2
      · exact k2 q hq

theorem read_then (hk : ahead ops i s.idx = false) (hs : s.loud = true) : ∀ (A : List Stp), (∀ q ∈ A, q.loud = true → ahead ops i q.idx = false) → okRead ops i (A ++ s :: C) = true → rereads i C = true
  | [], _, h => by
    have h : (bif s.loud then ahead ops i s.idx || (rereads i C && okRead ops i C) else okRead ops i C) = true := h
    rw [hs, cond_true, hk, Bool.false_or, Bool.and_eq_true] at h
    exact h.1
  | a :: A, hA, h => by
    have h : (bif a.loud then ahead ops i a.idx || (rereads i (A ++ s :: C) && okRead ops i (A ++ s :: C)) else okRead ops i (A ++ s :: C)) = true := h
    have hA' : ∀ q ∈ A, q.loud = true → ahead ops i q.idx = false := fun q hq => hA q (List.mem_cons_of_mem _ hq)
    cases ha : a.loud with
    | true =>
      rw [ha, cond_true, hA a (List.mem_cons_self ..) ha, Bool.false_or, Bool.and_eq_true] at h
      exact read_then hk hs A hA' h.2
    | false => rw [ha, cond_false] at h; exact read_then hk hs A hA' h
theorem rereads_split : ∀ {C : List Stp}, rereads i C = true → ∃ C1 o C2, C = C1 ++ .re i o :: C2 ∧ ∀ q ∈ C1, q.loud = false
  | [], h => by cases h
  | s :: C, h => by
    unfold rereads at h
    cases hs : s.loud with
    | true => rw [hs] at h; cases h
    | false =>
      rw [hs, cond_false, Bool.or_eq_true] at h
      rcases h with h | h
      · cases s with
        | re k o =>
          have := Nat.eq_of_beq_eq_true h
          subst this
          exact ⟨[], o, C, rfl, fun q hq => by cases hq⟩
        | ex _ _ => cases h
        | al _ _ _ => cases h
      · obtain ⟨C1, o, C2, h1, h2⟩ := rereads_split h
        refine ⟨s :: C1, o, C2, by rw [h1]; rfl, fun q hq => ?_⟩
        rcases List.mem_cons.1 hq with e | hq
        · subst e; exact hs
        · exact h2 q hq

/-! What is still to come. -/
def stepsOf : List It → List Stp
  | [] => []
  | .st s :: r => s :: stepsOf r
  | .lay _ _ :: r => stepsOf r
theorem stepsOf_append : ∀ (A B : List It), stepsOf (A ++ B) = stepsOf A ++ stepsOf B
  | [], _ => rfl
  | .st s :: A, B => by simp only [List.cons_append, stepsOf]; rw [stepsOf_append A B]
  | .lay _ _ :: A, B => by simp only [List.cons_append, stepsOf]; rw [stepsOf_append A B]
theorem mem_stepsOf : ∀ {S : List It} {s : Stp}, s ∈ stepsOf S ↔ It.st s ∈ S
  | [], s => by simp [stepsOf]
  | .st q :: S, s => by simp [stepsOf, mem_stepsOf (S := S)]
  | .lay _ _ :: S, s => by simp [stepsOf, mem_stepsOf (S := S)]
/-- Laid memory, or memory to be made, is not read in its stage. -/
def layOK : Bool → List It → Prop
  | _, [] => True
  | _, .lay _ _ :: r => layOK true r
  | made, .st s :: r => if s.loud then layOK false r else if s.makes then layOK true r else (s.looksMem = true → made = false) ∧ layOK made r
theorem layOK.weak : ∀ {S : List It}, layOK true S → layOK false S
  | [], _ => trivial
  | .lay _ _ :: _, h => h
  | .st s :: S, h => by
    unfold layOK at h ⊢
    split
    · rename_i h1; rw [if_pos h1] at h; exact h
    · rename_i h1
      rw [if_neg h1] at h
      split
      · rename_i h2; rw [if_pos h2] at h; exact h
      · rename_i h2
        rw [if_neg h2] at h
        exact ⟨fun _ => rfl, h.2.weak⟩
theorem layOK.drop {b : Bool} : ∀ {S : List It}, layOK b S → layOK false S := fun h => by cases b; exact h; exact h.weak
theorem layOK.before : ∀ {S1 S2 : List It} {b : Bool}, layOK b (S1 ++ .st s :: S2) → s.loud = false → s.makes = false → s.looksMem = true → (∀ q, It.st q ∈ S1 → q.loud = false) → b = false ∧ ∀ q ∈ S1, ∃ t, q = .st t ∧ t.makes = false
  | [], S2, b, h, h1, h2, h3, _ => by
    have h : layOK b (.st s :: S2) := h
    simp only [layOK, h1, h2, Bool.false_eq_true, if_false] at h
    exact ⟨h.1 h3, fun q hq => by cases hq⟩
  | .lay _ _ :: S1, S2, b, h, h1, h2, h3, hl => by
    have h : layOK true (S1 ++ .st s :: S2) := h
    have := (layOK.before h h1 h2 h3 (fun q hq => hl q (List.mem_cons_of_mem _ hq))).1
    cases this
  | .st t :: S1, S2, b, h, h1, h2, h3, hl => by
    have h : layOK b (.st t :: (S1 ++ .st s :: S2)) := h
    have ht := hl t (List.mem_cons_self ..)
    simp only [layOK, ht, Bool.false_eq_true, if_false] at h
    have hl' : ∀ q, It.st q ∈ S1 → q.loud = false := fun q hq => hl q (List.mem_cons_of_mem _ hq)
    split at h
    · have := (layOK.before h h1 h2 h3 hl').1; cases this
    · rename_i hm
      obtain ⟨k1, k2⟩ := layOK.before h.2 h1 h2 h3 hl'
      refine ⟨k1, fun q hq => ?_⟩
      rcases List.mem_cons.1 hq with e | hq
      · exact ⟨t, e, by simpa using hm⟩
      · exact k2 q hq
theorem layOK.after : ∀ {S1 S2 : List It} {b : Bool}, layOK b (S1 ++ .st s :: S2) → s.loud = true → layOK false S2
  | [], S2, b, h, h1 => by
    have h : layOK b (.st s :: S2) := h
    simpa [layOK, h1] using h
  | .lay _ _ :: S1, S2, b, h, h1 => layOK.after (S1 := S1) (b := true) h h1
  | .st t :: S1, S2, b, h, h1 => by
    have h : layOK b (.st t :: (S1 ++ .st s :: S2)) := h
    simp only [layOK] at h
    split at h
    · exact layOK.after h h1
    · split at h
      · exact layOK.after h h1
      · exact layOK.after h.2 h1
/-- A step that is not loud is left out; or turned to memory to be laid. -/
theorem layOK.cut : ∀ {S1 S2 : List It} {b : Bool}, layOK b (S1 ++ .st s :: S2) → s.loud = false → layOK b (S1 ++ S2)
  | [], S2, b, h, h1 => by
    replace h : layOK b (.st s :: S2) := h
    simp only [layOK, h1, Bool.false_eq_true, if_false, List.nil_append] at h ⊢
    split at h
    · clear h1
      cases b
      · exact h.weak
      · exact h
    · exact h.2
  | .lay _ _ :: S1, S2, b, h, h1 => layOK.cut (S1 := S1) (b := true) h h1
  | .st t :: S1, S2, b, h, h1 => by
    have h : layOK b (.st t :: (S1 ++ .st s :: S2)) := h
    show layOK b (.st t :: (S1 ++ S2))
    simp only [layOK] at h ⊢
    split
    · rename_i e; rw [if_pos e] at h; exact layOK.cut h h1
    · rename_i e
      rw [if_neg e] at h
      split
      · rename_i e; rw [if_pos e] at h; exact layOK.cut h h1
      · rename_i e; rw [if_neg e] at h; exact ⟨h.1, layOK.cut h.2 h1⟩
theorem layOK.laid {x : Nat} {ob : AObj} : ∀ {S1 S2 : List It} {b : Bool}, layOK b (S1 ++ .st s :: S2) → s.loud = false → s.makes = true → layOK b (S1 ++ .lay x ob :: S2)
  | [], S2, b, h, h1, h2 => by
    have h : layOK b (.st s :: S2) := h
    simpa [layOK, h1, h2] using h
  | .lay _ _ :: S1, S2, b, h, h1, h2 => layOK.laid (S1 := S1) (b := true) h h1 h2
  | .st t :: S1, S2, b, h, h1, h2 => by
    have h : layOK b (.st t :: (S1 ++ .st s :: S2)) := h
    show layOK b (.st t :: (S1 ++ .lay x ob :: S2))
    simp only [layOK] at h ⊢
    split
    · rename_i e; rw [if_pos e] at h; exact layOK.laid h h1 h2
    · rename_i e
      rw [if_neg e] at h
      split
      · rename_i e; rw [if_pos e] at h; exact layOK.laid h h1 h2
      · rename_i e; rw [if_neg e] at h; exact ⟨h.1, layOK.laid h.2 h1 h2⟩
/-- What is read anew is left out. -/
theorem layOK.dropped : ∀ {S : List It} {b : Bool}, layOK b S → (∀ s, It.st s ∈ S → s.idx = i → s.loud = false ∧ s.makes = false) → layOK b (S.filter (keep i))
  | [], b, _, _ => trivial
  | .lay x ob :: S, b, h, hS => by
    rw [List.filter_cons_of_pos rfl]
    exact layOK.dropped (S := S) (b := true) h (fun s hs => hS s (List.mem_cons_of_mem _ hs))
  | .st t :: S, b, h, hS => by
    have hS' : ∀ s, It.st s ∈ S → s.idx = i → s.loud = false ∧ s.makes = false := fun s hs => hS s (List.mem_cons_of_mem _ hs)
    cases hk : keep i (.st t) with
    | true =>
      rw [List.filter_cons_of_pos hk]
      simp only [layOK] at h ⊢
      split
      · rename_i e; rw [if_pos e] at h; exact layOK.dropped h hS'
      · rename_i e
        rw [if_neg e] at h
        split
        · rename_i e; rw [if_pos e] at h; exact layOK.dropped h hS'
        · rename_i e; rw [if_neg e] at h; exact ⟨h.1, layOK.dropped h.2 hS'⟩
    | false =>
      rw [List.filter_cons_of_neg (by rw [hk]; simp)]
      have hi : t.idx = i := by
        have hk : (!Nat.beq t.idx i) = false := hk
        cases hb : Nat.beq t.idx i with
        | true => exact Nat.eq_of_beq_eq_true hb
        | false => rw [hb] at hk; cases hk
      obtain ⟨k1, k2⟩ := hS t (List.mem_cons_self ..) hi
      simp only [layOK, k1, k2, Bool.false_eq_true, if_false] at h
      exact layOK.dropped h.2 hS'

end
end Go.AM
