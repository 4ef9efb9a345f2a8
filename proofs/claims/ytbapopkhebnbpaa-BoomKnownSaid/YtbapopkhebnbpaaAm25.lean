/- Steps of a drawn region, moved past each other. -/
import Derived.Test.YtbapopkhebnbpaaAm24
namespace Go.AM
open Go
noncomputable section

variable {tm tm1 tm2 : T AV} {σ σ1 σ2 σ' : AS} {v : AV} {G : Fns} {base : Nat} {R : T AV × AS}

/-- A step that is still to come; or memory that is to be laid. -/
inductive It where
  | st (s : Stp)
  | lay (b : Nat) (o : AObj)

def actS (G : Fns) (base : Nat) : Stp → T AV → AS → Option (T AV × AS)
  | .ex _ o, tm, σ => bif wanted o.guard tm then (opAny G o.op tm σ).map fun p => (putD tm o.dst (some p.1), p.2) else some (putD tm o.dst none, σ)
  | .re _ o, tm, σ => bif wanted o.guard tm then (opV o.op tm σ).bind fun p => (o.dst.bind fun d => tm.get d).bind fun w => bif p.1.beq w then some (tm, σ) else none else some (tm, σ)
  | .al _ j o, tm, σ => bif wanted o.guard tm then (bif Nat.beq (cls o.op) 2 then opV o.op tm { σ with next := base + j } else none).map fun p => (putD tm o.dst (some p.1), { p.2 with next := σ.next })
      else some (putD tm o.dst none, σ)
def act (G : Fns) (base : Nat) : It → T AV → AS → Option (T AV × AS)
  | .st s, tm, σ => actS G base s tm σ
  | .lay b o, tm, σ => some (tm, { σ with heap := σ.heap.put b (some o) })
def run (G : Fns) (base : Nat) : List It → T AV → AS → Option (T AV × AS)
  | [], tm, σ => some (tm, σ)
  | q :: r, tm, σ => (act G base q tm σ).bind fun p => run G base r p.1 p.2

theorem doStp_eq (s : Stp) (k : T AV → AS → Option (T AV × AS)) : doStp s G base k tm σ = (actS G base s tm σ).bind fun p => k p.1 p.2 := by
  cases s with
  | ex i o =>
    simp only [doStp, exStp, actS]
    cases wanted o.guard tm with
    | false => rfl
    | true => simp only [cond_true]; cases opAny G o.op tm σ <;> rfl
  | re i o =>
    simp only [doStp, reStp, actS]
    cases wanted o.guard tm with
    | false => rfl
    | true =>
      simp only [cond_true]
      cases opV o.op tm σ with
      | none => rfl
      | some p =>
        simp only [Option.bind_some]
        cases (o.dst.bind fun d => tm.get d) with
        | none => rfl
        | some x => simp only [Option.bind_some]; cases p.1.beq x <;> rfl
  | al i j o =>
    simp only [doStp, alStp, actS]
    cases wanted o.guard tm with
    | false => rfl
    | true => simp only [cond_true]; cases (bif Nat.beq (cls o.op) 2 then opV o.op tm { σ with next := base + j } else none) <;> rfl
theorem runSteps_eq : ∀ (l : List Stp) (tm : T AV) (σ : AS), runSteps G base l tm σ = run G base (l.map .st) tm σ
  | [], _, _ => rfl
  | s :: r, tm, σ => by
    rw [runSteps_cons, doStp_eq]
    simp only [List.map_cons, run, act]
    congr 1
    funext p
    exact runSteps_eq r p.1 p.2
theorem run_append : ∀ (A B : List It) (tm : T AV) (σ : AS), run G base (A ++ B) tm σ = (run G base A tm σ).bind fun p => run G base B p.1 p.2
  | [], _, _, _ => rfl
  | q :: A, B, tm, σ => by
    simp only [List.cons_append, run]
    cases act G base q tm σ with
    | none => rfl
    | some p => simp only [Option.bind_some]; exact run_append A B p.1 p.2
theorem run_split {A B : List It} (h : run G base (A ++ B) tm σ = some R) : ∃ t s, run G base A tm σ = some (t, s) ∧ run G base B t s = some R := by
  rw [run_append] at h
  obtain ⟨⟨t, s⟩, h1, h2⟩ := bind_some h
  exact ⟨t, s, h1, h2⟩
theorem run_join {A B : List It} {t : T AV} {s : AS} (h1 : run G base A tm σ = some (t, s)) (h2 : run G base B t s = some R) : run G base (A ++ B) tm σ = some R := by
  rw [run_append, h1]; exact h2

/-- What an item writes, and what it looks at. -/
def It.wr : It → Option Nat
  | .st s => if s.does then s.oper.dst else none
  | .lay _ _ => none
def It.lk : It → List Nat
  | .st s => looks s.oper ++ (if s.does then [] else s.oper.dst.toList)
  | .lay _ _ => []
/-- It leaves memory as it is. -/
def It.quiet : It → Prop
  | .st (.ex _ o) => cls o.op = 0 ∨ cls o.op = 1
  | .st (.re _ _) => True
  | _ => False

theorem putD_get {d : Option Nat} {x : Option AV} {t : Nat} (h : d ≠ some t) : (putD tm d x).get t = tm.get t := by
  cases d with
  | none => rfl
  | some d => simp only [putD, T.get_put]; rw [if_neg (fun e => h (by rw [e]))]
theorem putD_comm {d : Option Nat} {e : Nat} {x y : Option AV} (h : d ≠ some e) : putD (tm.put e y) d x = (putD tm d x).put e y := by
  cases d with
  | none => rfl
  | some d => exact T.put_comm tm y x (fun he => h (by rw [he]))

theorem agree_put {l : List Nat} {d : Nat} {x : Option AV} (h : d ∉ l) : ∀ t ∈ l, (tm.put d x).get t = tm.get t := fun t ht => by
  rw [T.get_put, if_neg (fun e => h (by rw [← e]; exact ht))]
theorem looks_wanted {o : AOper} (h : ∀ t ∈ looks o, tm1.get t = tm2.get t) : wanted o.guard tm1 = wanted o.guard tm2 := wanted_congr fun t ht => h t (List.mem_append_left _ ht)
theorem looks_op {o : AOper} (h : ∀ t ∈ looks o, tm1.get t = tm2.get t) : opV o.op tm1 σ = opV o.op tm2 σ := opV_congr fun t ht => h t (List.mem_append_right _ ht)
theorem looks_any {o : AOper} (h : ∀ t ∈ looks o, tm1.get t = tm2.get t) : opAny G o.op tm1 σ = opAny G o.op tm2 σ := opAny_congr fun t ht => h t (List.mem_append_right _ ht)

theorem act_frame {q : It} {d : Nat} {x : Option AV} (h1 : d ∉ q.lk) (h2 : q.wr ≠ some d) (h : act G base q tm σ = some (tm1, σ1)) : act G base q (tm.put d x) σ = some (tm1.put d x, σ1) := by
  cases q with
  | lay b o => cases h; rfl
  | st s =>
    have hl : ∀ t ∈ looks s.oper, (tm.put d x).get t = tm.get t := agree_put fun e => h1 (List.mem_append_left _ e)
    cases s with
    | ex i o =>
      have h2 : o.dst ≠ some d := h2
      simp only [act, actS] at h ⊢
      rw [looks_wanted (o := o) hl, looks_any (o := o) hl]
      cases hw : wanted o.guard tm with
      | false => rw [hw] at h; cases h; simp only [cond_false, putD_comm h2]
      | true =>
        rw [hw] at h
        simp only [cond_true] at h ⊢
        obtain ⟨p, e1, e2⟩ := map_some h
        cases e2
        simp only [e1, Option.map_some, putD_comm h2]
    | re i o =>
      have hd : ∀ e, o.dst = some e → (tm.put d x).get e = tm.get e := fun e he => by
        rw [T.get_put, if_neg]
        intro e2; subst e2
        exact h1 (List.mem_append_right _ (by simp [Stp.does, Stp.oper, he]))
      simp only [act, actS] at h ⊢
      rw [looks_wanted (o := o) hl, looks_op (o := o) hl]
      cases hw : wanted o.guard tm with
      | false => rw [hw] at h; cases h; rfl
      | true =>
        rw [hw] at h
        simp only [cond_true] at h ⊢
        obtain ⟨p, e1, h⟩ := bind_some h
        obtain ⟨y, e2, h⟩ := bind_some h
        obtain ⟨e3, h⟩ := bif_some h
        cases h
        have e4 : (o.dst.bind fun e => (tm.put d x).get e) = some y := by
          cases ho : o.dst with
          | none => rw [ho] at e2; cases e2
          | some e => rw [ho] at e2; simp only [Option.bind_some] at e2 ⊢; rw [hd e ho]; exact e2
        simp only [e1, Option.bind_some, e4, e3, cond_true]
    | al i j o =>
      have h2 : o.dst ≠ some d := h2
      simp only [act, actS] at h ⊢
      rw [looks_wanted (o := o) hl, looks_op (o := o) hl]
      cases hw : wanted o.guard tm with
      | false => rw [hw] at h; cases h; simp only [cond_false, putD_comm h2]
      | true =>
        rw [hw] at h
        simp only [cond_true] at h ⊢
        obtain ⟨p, e1, e2⟩ := map_some h
        cases e2
        simp only [e1, Option.map_some, putD_comm h2]

theorem run_frame : ∀ {S : List It} {d : Nat} {x : Option AV} {tm : T AV} {σ : AS}, (∀ q ∈ S, d ∉ q.lk ∧ q.wr ≠ some d) → run G base S tm σ = some (tm1, σ1) → run G base S (tm.put d x) σ = some (tm1.put d x, σ1)
  | [], d, x, tm, σ, _, h => by cases h; rfl
  | q :: S, d, x, tm, σ, hq, h => by
    obtain ⟨⟨t, s⟩, h1, h2⟩ := bind_some h
    obtain ⟨k1, k2⟩ := hq q (List.mem_cons_self ..)
    simp only [run, act_frame k1 k2 h1, Option.bind_some]
    exact run_frame (fun q hq' => hq q (List.mem_cons_of_mem _ hq')) h2
theorem run_frameD {S : List It} {d : Option Nat} {x : Option AV} (hq : ∀ q ∈ S, ∀ e, d = some e → e ∉ q.lk ∧ q.wr ≠ some e) (h : run G base S tm σ = some (tm1, σ1)) : run G base S (putD tm d x) σ = some (putD tm1 d x, σ1) := by
  cases d with
  | none => exact h
  | some d => exact run_frame (fun q hm => hq q hm d rfl) h

theorem act_get {q : It} {t : Nat} (h2 : q.wr ≠ some t) (h : act G base q tm σ = some (tm1, σ1)) : tm1.get t = tm.get t := by
  cases q with
  | lay b o => cases h; rfl
  | st s =>
    cases s with
    | ex i o =>
      have h2 : o.dst ≠ some t := h2
      simp only [act, actS] at h
      rcases bif_or h with h | h
      · obtain ⟨p, e1, e2⟩ := map_some h; cases e2; exact putD_get h2
      · cases h; exact putD_get h2
    | re i o =>
      simp only [act, actS] at h
      rcases bif_or h with h | h
      · obtain ⟨p, e1, h⟩ := bind_some h
        obtain ⟨y, e2, h⟩ := bind_some h
        obtain ⟨e3, h⟩ := bif_some h
        cases h; rfl
      · cases h; rfl
    | al i j o =>
      have h2 : o.dst ≠ some t := h2
      simp only [act, actS] at h
      rcases bif_or h with h | h
      · obtain ⟨p, e1, e2⟩ := map_some h; cases e2; exact putD_get h2
      · cases h; exact putD_get h2
theorem run_get : ∀ {S : List It} {t : Nat} {tm : T AV} {σ : AS}, (∀ q ∈ S, q.wr ≠ some t) → run G base S tm σ = some (tm1, σ1) → tm1.get t = tm.get t
  | [], t, tm, σ, _, h => by cases h; rfl
  | q :: S, t, tm, σ, hq, h => by
    obtain ⟨⟨u, s⟩, h1, h2⟩ := bind_some h
    rw [run_get (fun q hq' => hq q (List.mem_cons_of_mem _ hq')) h2]
    exact act_get (hq q (List.mem_cons_self ..)) h1

theorem callParts_low {ao : AOp} (h : cls ao = 0 ∨ cls ao = 1 ∨ cls ao = 2) : callParts ao = none := by
  cases ao <;> first | rfl | (simp [cls] at h)
theorem low_keeps {ao : AOp} (h : cls ao = 0 ∨ cls ao = 1) (hv : opAny G ao tm σ = some (v, σ')) : σ' = σ := by
  rw [opAny_none (callParts_low (h.imp id .inl))] at hv
  rcases h with h | h
  · exact keeps_pure h hv
  · exact (read_grow (σ2 := σ) h (fun _ _ e => e) hv).1
theorem act_quiet {q : It} (hq : q.quiet) (h : act G base q tm σ = some (tm1, σ1)) : σ1 = σ := by
  cases q with
  | lay b o => exact hq.elim
  | st s =>
    cases s with
    | al i j o => exact hq.elim
    | ex i o =>
      simp only [act, actS] at h
      rcases bif_or h with h | h
      · obtain ⟨p, e1, e2⟩ := map_some h; cases e2; exact low_keeps hq e1
      · cases h; rfl
    | re i o =>
      simp only [act, actS] at h
      rcases bif_or h with h | h
      · obtain ⟨p, e1, h⟩ := bind_some h
        obtain ⟨y, e2, h⟩ := bind_some h
        obtain ⟨e3, h⟩ := bif_some h
        cases h; rfl
      · cases h; rfl
theorem run_quiet : ∀ {S : List It} {tm : T AV} {σ : AS}, (∀ q ∈ S, q.quiet) → run G base S tm σ = some (tm1, σ1) → σ1 = σ
  | [], tm, σ, _, h => by cases h; rfl
  | q :: S, tm, σ, hq, h => by
    obtain ⟨⟨u, s⟩, h1, h2⟩ := bind_some h
    have e := act_quiet (hq q (List.mem_cons_self ..)) h1
    have e2 := run_quiet (fun q hq' => hq q (List.mem_cons_of_mem _ hq')) h2
    exact e2.trans e

/-- A lay comes ahead of what is quiet. -/
theorem act_lay {q : It} (hq : q.quiet) (hre : ∀ i o, q = .st (.re i o) → cls o.op = 1) (hs : ∀ b o, σ.heap.get b = some o → σ2.heap.get b = some o) (h : act G base q tm σ = some (tm1, σ1)) : act G base q tm σ2 = some (tm1, σ2) := by
  cases q with
  | lay b o => exact hq.elim
  | st s =>
    cases s with
    | al i j o => exact hq.elim
    | ex i o =>
      have hc : callParts o.op = none := callParts_low (Or.imp id .inl hq)
      simp only [act, actS] at h ⊢
      cases hw : wanted o.guard tm with
      | false => rw [hw] at h; cases h; rfl
      | true =>
        rw [hw] at h
        simp only [cond_true, opAny_none hc] at h ⊢
        obtain ⟨⟨u, s⟩, e1, e2⟩ := map_some h
        cases e2
        have hq : cls o.op = 0 ∨ cls o.op = 1 := hq
        rcases hq with hq | hq
        · rw [free_pure hq σ σ2 u s e1]; rfl
        · rw [(read_grow hq hs e1).2]; rfl
    | re i o =>
      simp only [act, actS] at h ⊢
      cases hw : wanted o.guard tm with
      | false => rw [hw] at h; cases h; rfl
      | true =>
        rw [hw] at h
        simp only [cond_true] at h ⊢
        obtain ⟨⟨u, s⟩, e1, h⟩ := bind_some h
        obtain ⟨y, e2, h⟩ := bind_some h
        obtain ⟨e3, h⟩ := bif_some h
        cases h
        rw [(read_grow (hre i o rfl) hs e1).2]
        simp only [Option.bind_some, e2]
        simp only at e3
        rw [e3]; rfl
theorem run_lay : ∀ {S : List It} {tm : T AV} {σ σ2 : AS}, (∀ q ∈ S, q.quiet ∧ ∀ i o, q = .st (.re i o) → cls o.op = 1) → (∀ b o, σ.heap.get b = some o → σ2.heap.get b = some o) → run G base S tm σ = some (tm1, σ1) → run G base S tm σ2 = some (tm1, σ2)
  | [], tm, _, _, _, _, h => by cases h; rfl
  | q :: S, tm, σ, σ2, hq, hs, h => by
    obtain ⟨⟨u, s⟩, h1, h2⟩ := bind_some h
    obtain ⟨k1, k2⟩ := hq q (List.mem_cons_self ..)
    have e : s = σ := act_quiet k1 h1
    rw [e] at h1 h2
    simp only [run, act_lay k1 k2 hs h1, Option.bind_some]
    exact run_lay (fun q hq' => hq q (List.mem_cons_of_mem _ hq')) hs h2

end
end Go.AM
