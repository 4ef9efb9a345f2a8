/- A step of a drawn region comes to the front. -/
import Derived.Test.YtbapopkhebnbpaaAm25
namespace Go.AM
open Go
noncomputable section

variable {tm tm1 tm2 : T AV} {σ σ1 σ2 σ' : AS} {v : AV} {G : Fns} {base : Nat} {R : T AV × AS} {S1 S2 : List It} {i j : Nat} {o : AOper}

mutual
theorem AV.beq_eq : ∀ (x y : AV), x.beq y = true → x = y
  | .bool _, y, h => by cases y <;> simp [AV.beq] at h; rw [h]
  | .int _ _, y, h => by cases y <;> simp [AV.beq] at h; rw [h.1, h.2]
  | .str _, y, h => by cases y <;> simp [AV.beq] at h; rw [h]
  | .ptr _, y, h => by cases y <;> simp [AV.beq] at h; rw [h]
  | .slc _ _ _ _ _, y, h => by cases y <;> simp [AV.beq] at h; obtain ⟨⟨⟨⟨rfl, rfl⟩, rfl⟩, rfl⟩, rfl⟩ := h; rfl
  | .map _, y, h => by cases y <;> simp [AV.beq] at h; rw [h]
  | .fn _ a c, y, h => by
    cases y <;> simp [AV.beq] at h
    obtain ⟨⟨rfl, h1⟩, h2⟩ := h
    rw [AV.beqs_eq a _ h1, AV.beqs_eq c _ h2]
  | .yld _, y, h => by cases y <;> simp [AV.beq] at h; rw [h]
  | .nilFn, y, h => by cases y <;> simp [AV.beq] at h; rfl
  | .agg l, y, h => by
    cases y <;> simp [AV.beq] at h
    rw [AV.beqs_eq l _ h]
  | .tup l, y, h => by
    cases y <;> simp [AV.beq] at h
    rw [AV.beqs_eq l _ h]
theorem AV.beqs_eq : ∀ (x y : List AV), AV.beqs x y = true → x = y
  | [], [], _ => rfl
  | [], _ :: _, h => by simp [AV.beqs] at h
  | _ :: _, [], h => by simp [AV.beqs] at h
  | a :: l, b :: r, h => by
    simp [AV.beqs] at h
    rw [AV.beq_eq a b h.1, AV.beqs_eq l r h.2]
end

def It.fine (q : It) : Prop := q.quiet ∧ ∀ i o, q = .st (.re i o) → cls o.op = 1

theorem lay_front {b : Nat} {ob : AObj} (hq : ∀ q ∈ S1, q.fine) (hb : σ.heap.get b = none) (h : run G base (S1 ++ .lay b ob :: S2) tm σ = some R) :
    run G base (S1 ++ S2) tm { σ with heap := σ.heap.put b (some ob) } = some R := by
  obtain ⟨t, s, h1, h2⟩ := run_split h
  have e : s = σ := run_quiet (fun q hm => (hq q hm).1) h1
  rw [e] at h1 h2
  refine run_join (run_lay hq (fun x u hx => ?_) h1) h2
  simp only [T.get_put]
  rw [if_neg (fun e => by rw [e, hb] at hx; cases hx)]
  exact hx

theorem front_value (hc : cls o.op = 0 ∨ (cls o.op = 1 ∧ ∀ q ∈ S1, q.quiet)) (ha : ∀ q ∈ S1, ∀ t ∈ looks o, q.wr ≠ some t) (hb : ∀ q ∈ S1, ∀ e, o.dst = some e → e ∉ q.lk ∧ q.wr ≠ some e)
    (h : run G base (S1 ++ .st (.ex i o) :: S2) tm σ = some R) : ∃ tm2, actS G base (.ex i o) tm σ = some (tm2, σ) ∧ run G base (S1 ++ S2) tm2 σ = some R := by
  obtain ⟨t, s, h1, h2⟩ := run_split h
  obtain ⟨⟨t', s'⟩, h3, h4⟩ := bind_some h2
  have hl : ∀ x ∈ looks o, t.get x = tm.get x := fun x hx => run_get (fun q hq => ha q hq x hx) h1
  have hcp : callParts o.op = none := callParts_low (hc.imp id fun h => .inl h.1)
  simp only [act, actS] at h3 ⊢
  rw [looks_wanted hl, looks_any hl] at h3
  cases hw : wanted o.guard tm with
  | false =>
    rw [hw] at h3; cases h3
    exact ⟨_, rfl, run_join (run_frameD hb h1) h4⟩
  | true =>
    rw [hw] at h3
    simp only [cond_true, opAny_none hcp] at h3 ⊢
    obtain ⟨⟨u, s2⟩, e1, e2⟩ := map_some h3
    cases e2
    rcases hc with hc | ⟨hc, hq⟩
    · have e := keeps_pure hc e1
      subst e
      rw [free_pure hc _ σ u _ e1]
      exact ⟨_, rfl, run_join (run_frameD hb h1) h4⟩
    · have e := run_quiet hq h1
      subst e
      have e := (read_grow (σ2 := s) hc (fun _ _ e => e) e1).1
      subst e
      rw [e1]
      exact ⟨_, rfl, run_join (run_frameD hb h1) h4⟩

theorem front_al (ha : ∀ q ∈ S1, ∀ t ∈ looks o, q.wr ≠ some t) (hb : ∀ q ∈ S1, ∀ e, o.dst = some e → e ∉ q.lk ∧ q.wr ≠ some e)
    (h : run G base (S1 ++ .st (.al i j o) :: S2) tm σ = some R) :
    (wanted o.guard tm = false ∧ run G base (S1 ++ S2) (putD tm o.dst none) σ = some R) ∨
    (wanted o.guard tm = true ∧ ∃ (v : AV) (s s' : AS), cls o.op = 2 ∧ opV o.op tm { s with next := base + j } = some (v, s') ∧
      ∀ ob, (∀ σ : AS, opV o.op tm { σ with next := base + j } = some (v, { σ with heap := σ.heap.put (base + j) (some ob), next := base + j + 1 })) →
        run G base (S1 ++ .lay (base + j) ob :: S2) (putD tm o.dst (some v)) σ = some R) := by
  obtain ⟨t, s, h1, h2⟩ := run_split h
  obtain ⟨⟨t', s'⟩, h3, h4⟩ := bind_some h2
  have hl : ∀ x ∈ looks o, t.get x = tm.get x := fun x hx => run_get (fun q hq => ha q hq x hx) h1
  simp only [act, actS] at h3
  rw [looks_wanted hl, looks_op hl] at h3
  cases hw : wanted o.guard tm with
  | false =>
    rw [hw] at h3; cases h3
    exact .inl ⟨rfl, run_join (run_frameD hb h1) h4⟩
  | true =>
    rw [hw] at h3
    simp only [cond_true] at h3
    obtain ⟨⟨u, s2⟩, e1, e2⟩ := map_some h3
    cases e2
    obtain ⟨e0, e1⟩ := bif_some e1
    refine .inr ⟨rfl, u, s, s2, Nat.eq_of_beq_eq_true e0, e1, fun ob hob => ?_⟩
    have e2 := hob s
    rw [e1] at e2
    cases e2
    refine run_join (run_frameD hb h1) ?_
    simp only [run, act, Option.bind_some]
    exact h4

/-- It reads memory. -/
def It.reads : It → Option AOper
  | .st (.ex _ o) => bif Nat.beq (cls o.op) 1 then some o else none
  | .st (.re _ o) => some o
  | _ => none

theorem act_again {q : It} (hq : q.fine) {tM : T AV} {i2 : Nat} {o2 : AOper} (hr : ∀ oq, q.reads = some oq → o2 = oq ∧ (∃ x, act G base (.st (.re i2 o2)) tM σ2 = some x) ∧ (∀ t ∈ looks oq ++ oq.dst.toList, tM.get t = tm1.get t) ∧ (∀ d, oq.dst = some d → d ∉ looks oq) ∧ oq.dst.isSome = true)
    (h : act G base q tm σ = some (tm1, σ)) : act G base q tm σ2 = some (tm1, σ2) := by
  cases q with
  | lay b ob => exact hq.1.elim
  | st s =>
    cases s with
    | al i j o => exact hq.1.elim
    | ex i o =>
      have hqq : cls o.op = 0 ∨ cls o.op = 1 := hq.1
      have hc : callParts o.op = none := callParts_low (hqq.imp id .inl)
      simp only [act, actS] at h ⊢
      cases hw : wanted o.guard tm with
      | false => rw [hw] at h; cases h; rfl
      | true =>
        rw [hw] at h
        simp only [cond_true, opAny_none hc] at h ⊢
        obtain ⟨⟨u, s⟩, e1, e2⟩ := map_some h
        cases e2
        rcases hqq with hqq | hqq
        · rw [free_pure hqq _ σ2 u _ e1]; rfl
        · obtain ⟨rfl, ⟨x, hx⟩, hag, hself, hsome⟩ := hr o (by simp [It.reads, hqq])
          obtain ⟨d, hd⟩ := Option.isSome_iff_exists.1 hsome
          have hl : ∀ t ∈ looks o2, tM.get t = tm.get t := fun t ht => by
            rw [hag t (List.mem_append_left _ ht), putD_get]
            intro e; exact hself t e ht
          simp only [act, actS] at hx
          rw [looks_wanted hl, hw, looks_op hl] at hx
          simp only [cond_true] at hx
          obtain ⟨⟨u2, s2⟩, k1, hx⟩ := bind_some hx
          obtain ⟨y, k2, hx⟩ := bind_some hx
          obtain ⟨k3, _⟩ := bif_some hx
          have k4 := AV.beq_eq _ _ k3
          simp only at k4
          subst k4
          have k5 : u2 = u := by
            rw [hd, Option.bind_some, hag d (List.mem_append_right _ (by simp [hd])), hd] at k2
            simp only [putD, T.get_put, if_true] at k2
            cases k2; rfl
          subst k5
          have k6 := (read_grow (σ2 := σ2) hqq (fun _ _ e => e) k1).1
          subst k6
          rw [k1]; rfl
    | re i o =>
      obtain ⟨rfl, ⟨x, hx⟩, hag, hself, hsome⟩ := hr o rfl
      have ht : tm1 = tm := by
        simp only [act, actS] at h
        rcases bif_or h with h | h
        · obtain ⟨p, e1, h⟩ := bind_some h
          obtain ⟨y, e2, h⟩ := bind_some h
          obtain ⟨e3, h⟩ := bif_some h
          cases h; rfl
        · cases h; rfl
      subst ht
      have hl : ∀ t ∈ looks o2, tM.get t = tm1.get t := fun t ht => hag t (List.mem_append_left _ ht)
      have hd : (o2.dst.bind fun d => tM.get d) = (o2.dst.bind fun d => tm1.get d) := by
        cases hd : o2.dst with
        | none => rfl
        | some d => simp only [Option.bind_some]; exact hag d (List.mem_append_right _ (by simp [hd]))
      simp only [act, actS] at hx ⊢
      rw [looks_wanted hl, looks_op hl, hd] at hx
      cases hw : wanted o2.guard tm1 with
      | false => rfl
      | true =>
        rw [hw] at hx
        simp only [cond_true] at hx ⊢
        obtain ⟨⟨u2, s2⟩, k1, hx⟩ := bind_some hx
        obtain ⟨y, k2, hx⟩ := bind_some hx
        obtain ⟨k3, _⟩ := bif_some hx
        simp only [k1, Option.bind_some, k2, k3, cond_true]

/-- What is read ahead of a loud step is read anew behind it. -/
structure Again (o : AOper) (S2 : List It) (oq : AOper) : Prop where
  ex : ∃ M i2 S3, S2 = M ++ .st (.re i2 oq) :: S3 ∧ (∀ m ∈ M, m.quiet) ∧ ∀ m ∈ M, ∀ t ∈ looks oq ++ oq.dst.toList, m.wr ≠ some t
  self : ∀ d, oq.dst = some d → d ∉ looks oq
  some : oq.dst.isSome = true

theorem run_again {t t' : T AV} (hS2 : ∃ x, run G base S2 t' σ2 = some x) : ∀ {S : List It} {tm : T AV}, (∀ q ∈ S, q.fine) → (∀ q ∈ S, ∀ oq, q.reads = some oq → Again o S2 oq ∧ ∀ x ∈ looks oq ++ oq.dst.toList, t'.get x = t.get x) →
    (∀ A q B, S = A ++ q :: B → ∀ oq, q.reads = some oq → ∀ m ∈ B, ∀ x ∈ looks oq ++ oq.dst.toList, m.wr ≠ some x) →
    run G base S tm σ = some (t, σ) → run G base S tm σ2 = some (t, σ2)
  | [], tm, _, _, _, h => by cases h; rfl
  | q :: S, tm, hf, hr, hp, h => by
    obtain ⟨⟨u, s⟩, h1, h2⟩ := bind_some h
    have hfq := hf q (List.mem_cons_self ..)
    have e : s = σ := act_quiet hfq.1 h1
    rw [e] at h1 h2
    have ih := run_again hS2 (fun q hq => hf q (List.mem_cons_of_mem _ hq)) (fun q hq => hr q (List.mem_cons_of_mem _ hq)) (fun A q B e => hp (_ :: A) q B (by rw [e]; rfl)) h2
    have ha : act G base q tm σ2 = some (u, σ2) := by
      cases hrd : q.reads with
      | none => exact act_again (tM := t) (i2 := 0) (o2 := o) hfq (fun oq hoq => by rw [hrd] at hoq; cases hoq) h1
      | some oq =>
        obtain ⟨⟨⟨M, i2, S3, e1, e2, e3⟩, hself, hsome⟩, e4⟩ := hr q (List.mem_cons_self ..) oq hrd
        obtain ⟨x, hx⟩ := hS2
        rw [e1] at hx
        obtain ⟨tM, sM, k1, k2⟩ := run_split hx
        have e5 : sM = σ2 := run_quiet e2 k1
        rw [e5] at k1 k2
        obtain ⟨y, k3, _⟩ := bind_some k2
        refine act_again (tM := tM) (i2 := i2) (o2 := oq) hfq (fun o' ho' => ?_) h1
        rw [hrd] at ho'; cases ho'
        refine ⟨rfl, ⟨y, k3⟩, fun z hz => ?_, hself, hsome⟩
        rw [run_get (fun m hm => e3 m hm z hz) k1, e4 z hz, run_get (fun m hm => hp [] q S rfl oq hrd m hm z hz) h2]
    simp only [run, ha, Option.bind_some]
    exact ih

theorem front_loud (hf : ∀ q ∈ S1, q.fine) (ha : ∀ q ∈ S1, ∀ t ∈ looks o, q.wr ≠ some t) (hb : ∀ q ∈ S1, ∀ e, o.dst = some e → e ∉ q.lk ∧ q.wr ≠ some e)
    (hr : ∀ q ∈ S1, ∀ oq, q.reads = some oq → Again o S2 oq) (hp : ∀ A q B, S1 = A ++ q :: B → ∀ oq, q.reads = some oq → ∀ m ∈ B, ∀ x ∈ looks oq ++ oq.dst.toList, m.wr ≠ some x)
    (h : run G base (S1 ++ .st (.ex i o) :: S2) tm σ = some R) : ∃ tm2 σ2, actS G base (.ex i o) tm σ = some (tm2, σ2) ∧ run G base (S1 ++ S2) tm2 σ2 = some R := by
  obtain ⟨t, s, h1, h2⟩ := run_split h
  have e : s = σ := run_quiet (fun q hq => (hf q hq).1) h1
  rw [e] at h1 h2
  obtain ⟨⟨t', s'⟩, h3, h4⟩ := bind_some h2
  have hl : ∀ x ∈ looks o, t.get x = tm.get x := fun x hx => run_get (fun q hq => ha q hq x hx) h1
  have key : ∃ x, t' = putD t o.dst x ∧ actS G base (.ex i o) tm σ = some (putD tm o.dst x, s') := by
    simp only [act, actS] at h3 ⊢
    rw [looks_wanted hl, looks_any hl] at h3
    cases hw : wanted o.guard tm with
    | false => rw [hw] at h3; cases h3; exact ⟨none, rfl, rfl⟩
    | true =>
      rw [hw] at h3
      simp only [cond_true] at h3 ⊢
      obtain ⟨⟨u, s2⟩, e1, e2⟩ := map_some h3
      cases e2
      exact ⟨some u, rfl, by rw [e1]; rfl⟩
  obtain ⟨x, rfl, k2⟩ := key
  refine ⟨_, _, k2, run_join (run_frameD hb (run_again (o := o) (t := t) (t' := putD t o.dst x) ⟨_, h4⟩ hf (fun q hq oq hoq => ⟨hr q hq oq hoq, fun z hz => putD_get fun e => ?_⟩) hp h1)) h4⟩
  obtain ⟨b1, b2⟩ := hb q hq z e
  cases q with
  | lay _ _ => cases hoq
  | st s =>
    cases s with
    | al _ _ _ => cases hoq
    | ex i' o' =>
      have hoq : (bif Nat.beq (cls o'.op) 1 then some o' else none) = some oq := hoq
      obtain ⟨_, hoq⟩ := bif_some hoq
      cases hoq
      rcases List.mem_append.1 hz with hz | hz
      · exact b1 (List.mem_append_left _ hz)
      · exact b2 (by simpa [It.wr, Stp.does, Stp.oper] using hz)
    | re i' o' =>
      cases hoq
      exact b1 hz

/-- What is read anew may be left out. -/
def keep (i : Nat) : It → Bool
  | .st s => !Nat.beq s.idx i
  | .lay _ _ => true
theorem drop_re : ∀ {S : List It} {tm : T AV} {σ : AS}, (∀ s, It.st s ∈ S → s.idx = i → s.does = false) → run G base S tm σ = some R → run G base (S.filter (keep i)) tm σ = some R
  | [], _, _, _, h => h
  | q :: S, tm, σ, hS, h => by
    obtain ⟨⟨u, s⟩, h1, h2⟩ := bind_some h
    have ih := drop_re (fun s hs => hS s (List.mem_cons_of_mem _ hs)) h2
    cases hk : keep i q with
    | true =>
      rw [List.filter_cons_of_pos hk]
      simp only [run, h1, Option.bind_some]
      exact ih
    | false =>
      rw [List.filter_cons_of_neg (by rw [hk]; simp)]
      cases q with
      | lay _ _ => cases hk
      | st sq =>
        have hi : sq.idx = i := by
          have hk : (!Nat.beq sq.idx i) = false := hk
          cases hb : Nat.beq sq.idx i with
          | true => exact Nat.eq_of_beq_eq_true hb
          | false => rw [hb] at hk; cases hk
        have hd := hS sq (List.mem_cons_self ..) hi
        cases sq with
        | ex _ _ => cases hd
        | al _ _ _ => cases hd
        | re i' o' =>
          have e : u = tm ∧ s = σ := by
            simp only [act, actS] at h1
            rcases bif_or h1 with h1 | h1
            · obtain ⟨p, e1, h1⟩ := bind_some h1
              obtain ⟨y, e2, h1⟩ := bind_some h1
              obtain ⟨e3, h1⟩ := bif_some h1
              cases h1; exact ⟨rfl, rfl⟩
            · cases h1; exact ⟨rfl, rfl⟩
          obtain ⟨rfl, rfl⟩ := e
          exact ih

end
end Go.AM
