/- One operation of a drawn region, wherever the schedule has it. -/
import Derived.Test.YtbapopkhebnbpaaAm30
namespace Go.AM
open Go
noncomputable section

variable {P : Program} {f f' f0 : FM} {σ σ' σ0 : AS} {w w' w0 : World} {tm : T AV} {G : Fns} {base z n kept N sz : Nat} {R : T AV × AS} {i : Nat} {B : Base} {a : Act} {k : List Item} {cs : List Frame} {ops : Array Oper} {steps : List Stp} {D : List Nat} {S S1 S2 : List It} {s : Stp}

theorem mem_alNos : ∀ {l : List Stp} {i j : Nat} {o : AOper}, .al i j o ∈ l → j ∈ alNos l
  | [], _, _, _, h => by cases h
  | .al i' j' o' :: l, i, j, o, h => by
    rcases List.mem_cons.1 h with h | h
    · cases h; exact List.mem_cons_self ..
    · exact List.mem_cons_of_mem _ (mem_alNos h)
  | .ex _ _ :: l, i, j, o, h => by
    rcases List.mem_cons.1 h with h | h
    · cases h
    · exact mem_alNos (l := l) h
  | .re _ _ :: l, i, j, o, h => by
    rcases List.mem_cons.1 h with h | h
    · cases h
    · exact mem_alNos (l := l) h
theorem alNos_append : ∀ (A C : List Stp), alNos (A ++ C) = alNos A ++ alNos C
  | [], _ => rfl
  | .al _ _ _ :: A, C => by simp only [List.cons_append, alNos]; rw [alNos_append A C]
  | .ex _ _ :: A, C => alNos_append A C
  | .re _ _ :: A, C => alNos_append A C
theorem Canon.alno (h : Canon P n ops kept steps) {A C : List Stp} {i j i' j' : Nat} {o o' : AOper} (e : steps = A ++ .al i j o :: C) (hm : .al i' j' o' ∈ A ++ C) : j' ≠ j := by
  have hnd := h.alnd
  rw [e, alNos_append] at hnd
  obtain ⟨_, h2, h3⟩ := List.nodup_append.1 hnd
  have h2 : (j :: alNos C).Nodup := h2
  rcases List.mem_append.1 hm with hm | hm
  · exact h3 _ (mem_alNos hm) _ (List.mem_cons_self ..)
  · intro e; rw [← e] at h2; exact (List.nodup_cons.1 h2).1 (mem_alNos hm)

/-- A drawn region that is under way. -/
structure Live (P : Program) (G : Fns) (n kept : Nat) (ops : Array Oper) (steps : List Stp) (R : T AV × AS) (f0 : FM) (σ0 : AS) (w0 : World) (N : Nat) (B : Base) (sz : Nat) (D : List Nat) (S : List It) (f : FM) (tm : T AV) (σ : AS) (w : World) (a : Act) : Prop where
  still : stepsOf S = todo D steps
  closed : Closed ops D
  lay : layOK false S
  run : run G σ0.next S tm σ = some R
  st : StR P f0 σ0 w0 f σ w
  nx : σ0.next + kept ≤ σ.next
  fl : σ.floor ≤ σ.next
  ids : ∀ i j o, .al i j o ∈ stepsOf S → f (σ0.next + j) = none
  pend : ∀ x ∈ lays S, Pend P f σ w w0.heap.size x
  apart : (lays S).Pairwise (Apart2 f)
  tr : TR P f tm a.tmps
  size : a.tmps.size = sz
  defs : DefOK N w a.defers
  rd : B.round.isSome = true → a.defers = []

theorem todo_cons (X : List Stp) : todo (i :: D) X = (todo D X).filter fun s => !Nat.beq s.idx i := by
  unfold todo
  rw [List.filter_filter]
  congr 1
  funext s
  have hb : (s.idx == i) = Nat.beq s.idx i := by
    cases h : Nat.beq s.idx i with
    | true => have := Nat.eq_of_beq_eq_true h; subst this; simp
    | false => have := Nat.ne_of_beq_eq_false h; simp [this]
  rw [List.contains_cons, Bool.not_or, hb]
theorem stepsOf_keep : ∀ (S : List It), stepsOf (S.filter (keep i)) = (stepsOf S).filter fun s => !Nat.beq s.idx i
  | [] => rfl
  | .lay b o :: S => by rw [List.filter_cons_of_pos rfl]; exact stepsOf_keep S
  | .st s :: S => by
    cases hk : keep i (.st s) with
    | true =>
      have hk' : (!Nat.beq s.idx i) = true := hk
      rw [List.filter_cons_of_pos hk]; simp only [stepsOf]; rw [stepsOf_keep S, List.filter_cons_of_pos (p := fun (s : Stp) => !Nat.beq s.idx i) hk']
    | false =>
      have hk' : (!Nat.beq s.idx i) = false := hk
      rw [List.filter_cons_of_neg (by rw [hk]; simp)]; simp only [stepsOf]; rw [stepsOf_keep S, List.filter_cons_of_neg (p := fun (s : Stp) => !Nat.beq s.idx i) (by rw [hk']; simp)]

/-- What is left when a step is done. -/
theorem Canon.left (h : Canon P n ops kept steps) (hs : s.does = true) (hS : stepsOf (S1 ++ .st s :: S2) = todo D steps) {T1 : List It} (hT : stepsOf T1 = stepsOf (S1 ++ S2)) :
    stepsOf (T1.filter (keep s.idx)) = todo (s.idx :: D) steps ∧ ∀ q, It.st q ∈ T1 → q.idx = s.idx → q.does = false := by
  obtain ⟨A, C, e, h1, h2, h3⟩ := locate hS
  have pl := h.place e
  refine ⟨?_, fun q hq hi => ?_⟩
  · have hb : (!Nat.beq s.idx s.idx) = false := by simp
    rw [stepsOf_keep, hT, todo_cons, ← hS, stepsOf_append, stepsOf_append, List.filter_append, List.filter_append]
    congr 1
    show _ = List.filter _ (s :: stepsOf S2)
    rw [List.filter_cons_of_neg (by rw [hb]; simp)]
  · have := mem_stepsOf.2 hq
    rw [hT, stepsOf_append, ← h1, ← h2] at this
    cases hd : q.does with
    | false => rfl
    | true =>
      rcases List.mem_append.1 this with hm | hm
      · exact absurd (mem_idxs.2 ⟨q, (mem_todo.1 hm).1, hd, hi⟩) (pl.notA hs)
      · exact absurd hi (pl.later q (mem_todo.1 hm).1 hd).2

theorem re_light {q : Stp} (h : q.does = false) : q.loud = false ∧ q.makes = false := by
  cases q <;> first | (cases h; done) | exact ⟨rfl, rfl⟩

/-- The machine's step for a step that is carried out in its place. -/
theorem ex_real (hS : Sound P G) {rest : List Nat} {o : Oper} {ao : AOper} {tm2 : T AV} {σ2 : AS} (ho : ops[i]? = some o) (hok : OperOK P n ops ao o) (hR : Rel P f σ w) (hdom : Dom f σ) (hfl : σ.floor ≤ σ.next) (ht : TR P f tm a.tmps) (hn : n ≤ a.tmps.size)
    (h : actS G base (.ex i ao) tm σ = some (tm2, σ2)) :
    To P (lone (B.fr a (.inRegion ops (i :: rest) :: k)) cs w) (fun m => ∃ a' w' f', m = lone (B.fr a' (.inRegion ops rest :: k)) cs w' ∧ TR P f' tm2 a'.tmps ∧ StR P f σ w f' σ2 w' ∧ a'.defers = a.defers ∧ a'.tmps.size = a.tmps.size) := by
  have hsm : ∀ x, o.dst = some x → x < a.tmps.size := fun x hx => Nat.lt_of_lt_of_le (hok.small x hx) hn
  simp only [actS] at h
  cases hw : wanted ao.guard tm with
  | false =>
    rw [hw] at h
    cases h
    have hw' : Region.wanted o (yielded ops a.tmps) = false := by rw [wanted_eq hok ht]; exact hw
    exact To.step (st_op_skip ho hw') (To.here ⟨_, w, f, rfl, by rw [hok.dst]; exact ht.putD_none hsm, StR.refl hR, put_defers .., put_size ..⟩)
  | true =>
    rw [hw] at h
    obtain ⟨⟨u, s⟩, h1, h2⟩ := map_some h
    cases h2
    refine (op_go hS ho hok hR hdom hfl ht hw h1).mono fun m hm => ?_
    obtain ⟨rv, w1, f1, e1, e2, e3⟩ := hm
    exact ⟨_, w1, f1, e1, by rw [hok.dst]; exact (ht.mono e3.sub).putD_some hsm e2, e3, put_defers .., put_size ..⟩

/-- Carried on by a step of both. -/
theorem Live.carry {D : List Nat} {S' : List It} {tm' : T AV} {a' : Act} (hst : StR P f0 σ0 w0 f σ w) (hnx : σ0.next + kept ≤ σ.next) (hfl : σ.floor ≤ σ.next) (hstep : StR P f σ w f' σ' w') (still : stepsOf S' = todo D steps) (closed : Closed ops D) (lay : layOK false S') (hrun : Go.AM.run G σ0.next S' tm' σ' = some R)
    (ids : ∀ i j o, .al i j o ∈ stepsOf S' → j < kept ∧ f (σ0.next + j) = none) (pend : ∀ x ∈ lays S', Pend P f σ w w0.heap.size x) (apart : (lays S').Pairwise (Apart2 f)) (tr : TR P f' tm' a'.tmps) (size : a'.tmps.size = sz)
    (defs : DefOK N w a'.defers) (rd : B.round.isSome = true → a'.defers = []) : Live P G n kept ops steps R f0 σ0 w0 N B sz D S' f' tm' σ' w' a' where
  still := still
  closed := closed
  lay := lay
  run := hrun
  st := hst.trans hstep
  nx := Nat.le_trans hnx hstep.nx
  fl := by rw [hstep.fl]; exact Nat.le_trans hfl hstep.nx
  ids i j o hm := by
    obtain ⟨h1, h2⟩ := ids i j o hm
    rw [hstep.off _ (fun hh => by omega)]; exact h2
  pend x hx := (pend x hx).step hstep
  apart := apart.imp_of_mem fun hx hy h => h.mono (pend _ hx) (pend _ hy) hstep.sub
  tr := tr
  size := size
  defs := defs.step hst.rel hstep
  rd := rd

end
end Go.AM
