/- A drawn region, whatever its schedule. -/
import Derived.Test.YtbapopkhebnbpaaAm32
namespace Go.AM
open Go
noncomputable section

variable {P : Program} {f f' f0 : FM} {σ σ' σ0 : AS} {w w' w0 : World} {tm : T AV} {G : Fns} {n kept N sz : Nat} {R : T AV × AS} {i : Nat} {B : Base} {a : Act} {k : List Item} {cs : List Frame} {ops : Array Oper} {steps : List Stp} {D : List Nat} {S S1 S2 : List It} {s : Stp}

theorem nodup_bound : ∀ (n : Nat) (L : List Nat), L.Nodup → (∀ x ∈ L, x < n) → L.length ≤ n
  | 0, [], _, _ => Nat.le_refl _
  | 0, x :: _, _, h => absurd (h x (List.mem_cons_self ..)) (Nat.not_lt_zero _)
  | n + 1, L, hn, h => by
    have h1 := nodup_bound n (L.erase n) (hn.erase n) (fun x hx => by
      obtain ⟨e1, e2⟩ := (hn.mem_erase_iff).1 hx
      have := h x e2
      omega)
    by_cases hm : n ∈ L
    · rw [List.length_erase_of_mem hm] at h1; omega
    · rw [List.erase_of_not_mem hm] at h1; omega
theorem nodup_full {n : Nat} {L : List Nat} (hn : L.Nodup) (h : ∀ x ∈ L, x < n) (hl : L.length = n) {i : Nat} (hi : i < n) : i ∈ L := by
  by_cases hm : i ∈ L
  · exact hm
  · have := nodup_bound n (i :: L) (List.nodup_cons.2 ⟨hm, hn⟩) (fun x hx => by
      rcases List.mem_cons.1 hx with e | hx
      · subst e; exact hi
      · exact h x hx)
    simp only [List.length_cons] at this
    omega
theorem Canon.idx_lt (h : Canon P n ops kept steps) {s : Stp} (hs : s ∈ steps) : s.idx < ops.size := by
  obtain ⟨o, ho, _⟩ := h.oper s hs
  exact (Array.getElem?_eq_some_iff.1 ho).1
theorem Canon.full (h : Canon P n ops kept steps) (hi : i < ops.size) : i ∈ idxs steps :=
  nodup_full h.nd (fun x hx => by obtain ⟨s, h1, _, h3⟩ := mem_idxs.1 hx; rw [← h3]; exact h.idx_lt h1) h.len hi
theorem first_of {p : Stp → Prop} [DecidablePred p] : ∀ {l : List Stp}, (∃ s ∈ l, p s) → ∃ A s C, l = A ++ s :: C ∧ p s ∧ ∀ q ∈ A, ¬ p q
  | [], h => by obtain ⟨s, h, _⟩ := h; cases h
  | x :: l, h => by
    by_cases hx : p x
    · exact ⟨[], x, l, rfl, hx, fun q hq => by cases hq⟩
    · obtain ⟨s, h1, h2⟩ := h
      rcases List.mem_cons.1 h1 with e | h1
      · subst e; exact absurd h2 hx
      · obtain ⟨A, t, C, e1, e2, e3⟩ := first_of ⟨s, h1, h2⟩
        refine ⟨x :: A, t, C, by rw [e1]; rfl, e2, fun q hq => ?_⟩
        rcases List.mem_cons.1 hq with e | hq
        · subst e; exact hx
        · exact e3 q hq

/-- What the schedule has listed. -/
def Listed (ops : Array Oper) (D : List Nat) (listed : Array Bool) : Prop := listed.size = ops.size ∧ ∀ j, j < ops.size → listed[j]? = some (decide (j ∈ D))
theorem Listed.mem {listed : Array Bool} (h : Listed ops D listed) {j : Nat} (hj : listed.getD j false = true) : j ∈ D := by
  rw [Array.getD_eq_getD_getElem?] at hj
  by_cases hl : j < ops.size
  · rw [h.2 j hl] at hj; simpa using hj
  · rw [Array.getElem?_eq_none (by rw [h.1]; omega)] at hj; simp at hj
theorem mem_direct {o : Oper} (ho : ops[i]? = some o) {e : Nat} : e ∈ direct ops i ↔ ∃ x ∈ o.after, Region.binds .any x = true ∧ x.on = e := by
  unfold direct
  rw [ho]
  simp only [List.mem_map, List.mem_filter]
  constructor
  · rintro ⟨x, ⟨h1, h2⟩, h3⟩; exact ⟨x, by simpa using h1, h2, h3⟩
  · rintro ⟨x, h1, h2, h3⟩; exact ⟨x, ⟨by simpa using h1, h2⟩, h3⟩
theorem Listed.ready {listed : Array Bool} (h : Listed ops D listed) (hD : ∀ x ∈ D, x < ops.size) : i ∈ Region.ready .any ops listed ↔ i < ops.size ∧ i ∉ D ∧ ∀ e ∈ direct ops i, e ∈ D := by
  rw [mem_ready]
  constructor
  · rintro ⟨h1, o, ho, h2⟩
    have hi := (Array.getElem?_eq_some_iff.1 ho).1
    refine ⟨hi, ?_, fun e he => ?_⟩
    · rw [Array.getD_eq_getD_getElem?, h.2 i hi] at h1; simpa using h1
    · obtain ⟨x, k1, k2, rfl⟩ := (mem_direct ho).1 he
      exact h.mem (h2 x k1 k2)
  · rintro ⟨hi, h1, h2⟩
    refine ⟨by rw [Array.getD_eq_getD_getElem?, h.2 i hi]; simpa using h1, ops[i], Array.getElem?_eq_getElem hi, fun x hx hb => ?_⟩
    have := h2 x.on ((mem_direct (Array.getElem?_eq_getElem hi)).2 ⟨x, hx, hb, rfl⟩)
    rw [Array.getD_eq_getD_getElem?, h.2 _ (hD _ this)]
    simpa using this
theorem Listed.put {listed : Array Bool} (h : Listed ops D listed) (hi : i < ops.size) : Listed ops (i :: D) (listed.setIfInBounds i true) := by
  refine ⟨by simp [h.1], fun j hj => ?_⟩
  by_cases e : i = j
  · subst e; rw [Array.getElem?_setIfInBounds_self_of_lt (by rw [h.1]; exact hi)]; simp
  · rw [Array.getElem?_setIfInBounds_ne e, h.2 j hj]
    simp [Ne.symm e]

theorem sched (hS : Sound P G) (hc : Canon P n ops kept steps) (hdom0 : Dom f0 σ0) (hlow : N ≤ w0.heap.size) (hn : n ≤ sz) : ∀ (fuel t : Nat) (listed : Array Bool) (D : List Nat) (S : List It) (f : FM) (tm : T AV) (σ : AS) (w : World) (a : Act),
    Live P G n kept ops steps R f0 σ0 w0 N B sz D S f tm σ w a → D.Nodup → (∀ x ∈ D, x < ops.size) → D.length + fuel = ops.size → Listed ops D listed →
    To P (lone (B.fr a (.inRegion ops (Region.linearise.go .any ops fuel t listed []) :: k)) cs w) (fun m => ∃ a' w' f' tm' σ' S' D', m = lone (B.fr a' (.inRegion ops [] :: k)) cs w' ∧ Live P G n kept ops steps R f0 σ0 w0 N B sz D' S' f' tm' σ' w' a' ∧ ∀ i ∈ idxs steps, i ∈ D')
  | 0, t, listed, D, S, f, tm, σ, w, a, hL, hnd, hlt, hlen, _ => by
    refine To.here ⟨a, w, f, tm, σ, S, D, rfl, hL, fun i hi => ?_⟩
    obtain ⟨s, h1, _, h3⟩ := mem_idxs.1 hi
    exact nodup_full hnd hlt (by omega) (by rw [← h3]; exact hc.idx_lt h1)
  | fuel + 1, t, listed, D, S, f, tm, σ, w, a, hL, hnd, hlt, hlen, hls => by
    have hgo : Region.linearise.go .any ops (fuel + 1) t listed [] = match (Region.ready .any ops listed)[t % (Region.ready .any ops listed).length]? with
        | some i => Region.linearise.go .any ops fuel (t / (Region.ready .any ops listed).length) (listed.setIfInBounds i true) [i]
        | none => [] := rfl
    rw [hgo]
    cases hr : (Region.ready .any ops listed)[t % (Region.ready .any ops listed).length]? with
    | some i =>
      dsimp only
      rw [linearise_go_acc]
      have hi := (hls.ready hlt).1 (List.mem_of_getElem? hr)
      refine (live_step hS hc hL hdom0 hlow hn hi.2.1 (hc.full hi.1) hi.2.2 _).bind fun m hm => ?_
      obtain ⟨a', w', f', tm', σ', S', rfl, hL'⟩ := hm
      refine sched hS hc hdom0 hlow hn fuel _ _ (i :: D) S' f' tm' σ' w' a' hL' (List.nodup_cons.2 ⟨hi.2.1, hnd⟩) (fun x hx => ?_) (by simp only [List.length_cons]; omega) (hls.put hi.1)
      rcases List.mem_cons.1 hx with e | hx
      · subst e; exact hi.1
      · exact hlt x hx
    | none =>
      refine To.here ⟨a, w, f, tm, σ, S, D, rfl, hL, fun i hi => ?_⟩
      have hemp : Region.ready .any ops listed = [] := by
        cases hx : Region.ready .any ops listed with
        | nil => rfl
        | cons x r =>
          have := List.getElem?_eq_none_iff.1 hr
          have h2 : t % (Region.ready .any ops listed).length < (Region.ready .any ops listed).length := Nat.mod_lt _ (by rw [hx]; simp)
          omega
      by_cases hm : i ∈ D
      · exact hm
      · exfalso
        obtain ⟨s0, h1, h2, h3⟩ := mem_idxs.1 hi
        obtain ⟨A, s, C, e1, ⟨e2, e3⟩, e4⟩ := first_of (p := fun s => s.does = true ∧ s.idx ∉ D) ⟨s0, h1, h2, by rw [h3]; exact hm⟩
        have pl := hc.place e1
        have hrd : s.idx ∈ Region.ready .any ops listed := (hls.ready hlt).2 ⟨hc.idx_lt (by rw [e1]; simp), e3, fun e he => by
          obtain ⟨q, g1, g2, g3⟩ := mem_idxs.1 (pl.pre e2 e he)
          have := e4 q g1
          by_cases hq : q.idx ∈ D
          · rw [← g3]; exact hq
          · exact absurd ⟨g2, hq⟩ this⟩
        rw [hemp] at hrd
        cases hrd

theorem lay_of_stages : ∀ {l : List Stp} {last : Option Nat} {made : Bool}, okStages ops last made l = true → layOK made (l.map .st)
  | [], _, _, _ => trivial
  | s :: l, last, made, h => by
    show layOK made (.st s :: l.map .st)
    unfold layOK
    rcases stages_cons h with ⟨e1, _, h3⟩ | ⟨e1, e2, _, h3⟩ | ⟨e1, e2, _, e4, _, h3⟩ | ⟨e1, e2, e3, h3⟩
    · rw [if_pos e1]; exact lay_of_stages h3
    · rw [if_neg (by rw [e1]; simp), if_pos e2]; exact lay_of_stages h3
    · rw [if_neg (by rw [e1]; simp), if_neg (by rw [e2]; simp)]; exact ⟨fun _ => e4, lay_of_stages h3⟩
    · rw [if_neg (by rw [e1]; simp), if_neg (by rw [e2]; simp)]; exact ⟨fun hh => (by rw [e3] at hh; cases hh), lay_of_stages h3⟩
theorem stepsOf_map : ∀ (l : List Stp), stepsOf (l.map .st) = l
  | [] => rfl
  | s :: l => by show s :: stepsOf (l.map .st) = _; rw [stepsOf_map l]
theorem lays_map : ∀ (l : List Stp), lays (l.map .st) = []
  | [] => rfl
  | s :: l => lays_map l

theorem draws_ok (hmix : P.follows .mixedOrders = true) : DrawsOK P := by
  intro G hS hA n ops kept steps hok tm σ tm' σ' hrun f w N B sz a k cs id hp hn
  have hc := canon_of hok
  rw [runSteps_eq] at hrun
  refine To.step st_region_draw ?_
  have hsch : Region.schedule (P.follows .mixedOrders) ops (w.tape w.drawn (.order B.fn id)) = Region.linearise.go .any ops ops.size (w.tape w.drawn (.order B.fn id)) (Array.replicate ops.size false) [] := by
    simp only [Region.schedule, hmix, Bool.true_or, if_true]; rfl
  rw [hsch]
  have hst : StR P f σ w f { σ with next := σ.next + kept } w.drew :=
    ⟨⟨fun b o hg => hp.rel.obj b o hg, fun b o hg => Nat.lt_of_lt_of_le (hp.rel.lt b o hg) (Nat.le_add_right _ _), hp.rel.inj⟩, Sub.refl f, fun _ _ => rfl, Nat.le_add_right _ _, rfl, Nat.le_refl _, fun _ _ _ => rfl,
      fun b o t h1 h2 => .inr ⟨b, o, t, h1, h2, rfl, fun h => ⟨h, fun x => x⟩⟩, rfl, rfl⟩
  have hL : Live P G n kept ops steps (tm', σ') f σ w N B sz [] (steps.map .st) f tm { σ with next := σ.next + kept } w.drew a := by
    refine ⟨?_, fun x hx => (by cases hx), lay_of_stages hc.stages, hrun, hst, Nat.le_refl _, Nat.le_trans hp.fl (Nat.le_add_right _ _), fun i j o _ => hp.dom _ (Nat.le_add_right _ _), ?_, ?_, hp.tr, hp.size, hp.defs, hp.rd⟩
    · rw [stepsOf_map]; unfold todo; exact (List.filter_eq_self.2 fun s _ => by simp).symm
    · rw [lays_map]; intro x hx; cases hx
    · rw [lays_map]; exact List.Pairwise.nil
  refine (sched hS hc hp.dom hp.low hn ops.size _ _ [] _ f tm _ w.drew a hL List.nodup_nil (fun x hx => by cases hx) (by simp) ⟨by simp, fun j hj => by simp [hj]⟩).bind fun m hm => ?_
  obtain ⟨a', w', f', tm2, σ2, S', D', rfl, hL', hall⟩ := hm
  refine To.step st_region_end ?_
  have hnil : stepsOf S' = [] := by
    rw [hL'.still]
    unfold todo
    rw [List.filter_eq_nil_iff]
    intro s hs
    have : s.idx ∈ idxs steps := by
      cases hd : s.does with
      | true => exact mem_idxs.2 ⟨s, hs, hd, rfl⟩
      | false =>
        obtain ⟨X, Y, e⟩ := List.append_of_mem hs
        have := (hc.place e).post hd
        rw [e, idxs_append]; exact List.mem_append_left _ this
    simp [hall _ this]
  obtain ⟨σ3, k1, k2, _⟩ := lays_out [] S' [] σ2 (fun q hq => by cases hq) (fun q hq => by
    cases q with
    | lay b o => exact .inr ⟨b, o, rfl⟩
    | st s =>
      have := mem_stepsOf.2 hq
      rw [hnil] at this; cases this) (by simpa using hL'.run) hL'.st (by simpa using hL'.pend) (by simpa using hL'.apart)
  have hf0 : S'.filter isSt = [] := by
    rw [List.filter_eq_nil_iff]
    intro q hq
    cases q with
    | lay b o => simp [isSt]
    | st s =>
      have := mem_stepsOf.2 hq
      rw [hnil] at this; cases this
  rw [hf0] at k1
  have k1 : some (tm2, σ3) = some (tm', σ') := k1
  cases k1
  exact To.here ⟨a', w', f', rfl, k2, hL'.tr, hL'.size, hL'.defs, hL'.rd⟩

theorem all_sound {ft : T AFunc} (hmix : P.follows .mixedOrders = true) (hT : TableOK P ft) (m : Nat) : Sound P (fns ft m) := sound_fns (draws_ok hmix) hT m

end
end Go.AM
