/- Memory that is made early, and what is pending. -/
import Derived.Test.YtbapopkhebnbpaaAm29
namespace Go.AM
open Go
noncomputable section

variable {P : Program} {f f' f0 : FM} {σ σ' σ0 : AS} {w w' w0 : World} {tm : T AV} {G : Fns} {base z : Nat} {R : T AV × AS} {x y : Nat × AObj} {i : Nat}

/-- Memory that is there in the model, and is to be laid. -/
def Pend (P : Program) (f : FM) (σ : AS) (w : World) (z : Nat) (x : Nat × AObj) : Prop :=
  x.2.rw = true ∧ ObjR P f w x.1 x.2 ∧ σ.heap.get x.1 = none ∧ x.1 < σ.next ∧ ∃ t, f x.1 = some t ∧ z ≤ t.1 ∧ ∀ b o u, σ.heap.get b = some o → f b = some u → u.1 ≠ t.1
def Apart2 (f : FM) (x y : Nat × AObj) : Prop := x.1 ≠ y.1 ∧ ∀ t u, f x.1 = some t → f y.1 = some u → t.1 ≠ u.1

theorem StR.lay (h : StR P f0 σ0 w0 f σ w) (hp : Pend P f σ w w0.heap.size x) : StR P f0 σ0 w0 f { σ with heap := σ.heap.put x.1 (some x.2) } w := by
  obtain ⟨h1, h2, h3, h4, t, h5, h6, h7⟩ := hp
  refine ⟨⟨fun b o hg => ?_, fun b o hg => ?_, fun b b' o o' u u' g1 g2 hne hr e1 e2 => ?_⟩, h.sub, h.off, h.nx, h.fl, h.sz, h.kept, fun b o u hg hu => ?_, h.out, h.os⟩
  · simp only [T.get_put] at hg
    split at hg
    · rename_i e; subst e; cases hg; exact h2
    · exact h.rel.obj b o hg
  · simp only [T.get_put] at hg
    split at hg
    · rename_i e; subst e; exact h4
    · exact h.rel.lt b o hg
  · simp only [T.get_put] at g1 g2
    split at g1
    · rename_i e; subst e
      rw [if_neg (Ne.symm hne)] at g2
      rw [h5] at e1; cases e1
      exact Ne.symm (h7 b' o' u' g2 e2)
    · split at g2
      · rename_i e; subst e
        rw [h5] at e2; cases e2
        exact h7 b o u g1 e1
      · exact h.rel.inj b b' o o' u u' g1 g2 hne hr e1 e2
  · simp only [T.get_put] at hg
    split at hg
    · rename_i e; subst e; rw [h5] at hu; cases hu; exact .inl h6
    · exact h.fresh b o u hg hu

theorem Pend.lay (hy : Pend P f σ w z y) (ha : Apart2 f x y) : Pend P f { σ with heap := σ.heap.put x.1 (some x.2) } w z y := by
  obtain ⟨h1, h2, h3, h4, t, h5, h6, h7⟩ := hy
  refine ⟨h1, h2, ?_, h4, t, h5, h6, fun b o u hg hu => ?_⟩
  · simp only [T.get_put]; rw [if_neg (Ne.symm ha.1)]; exact h3
  · simp only [T.get_put] at hg
    split at hg
    · rename_i e; subst e; exact ha.2 u t hu h5
    · exact h7 b o u hg hu

theorem Pend.step (hx : Pend P f σ w z x) (hs : StR P f σ w f' σ' w') : Pend P f' σ' w' z x := by
  obtain ⟨h1, h2, h3, h4, t, h5, h6, h7⟩ := hx
  obtain ⟨t2, h8, h9⟩ := h2.home
  rw [h5] at h8; cases h8
  have hk : w'.heap[t.1]? = w.heap[t.1]? := hs.kept _ h9 fun b o u g1 _ _ g2 => h7 b o u g1 g2
  have hno : ∀ b o u, σ'.heap.get b = some o → f' b = some u → u.1 ≠ t.1 := fun b o u g1 g2 e => by
    rcases hs.fresh b o u g1 g2 with hh | ⟨b0, o0, t0, k1, k2, k3, _⟩
    · omega
    · exact h7 b0 o0 t0 k1 k2 (k3.trans e)
  refine ⟨h1, (h2.congr h5 hk).mono hs.sub, ?_, Nat.lt_of_lt_of_le h4 hs.nx, t, hs.sub _ _ h5, h6, hno⟩
  cases hg : σ'.heap.get x.1 with
  | none => rfl
  | some o => exact absurd rfl (hno _ _ _ hg (hs.sub _ _ h5))
theorem Apart2.mono (h : Apart2 f x y) (hx : Pend P f σ w z x) (hy : Pend P f σ w z y) (hs : Sub f f') : Apart2 f' x y := by
  obtain ⟨_, _, _, _, t, h5, _⟩ := hx
  obtain ⟨_, _, _, _, u, k5, _⟩ := hy
  refine ⟨h.1, fun t' u' e1 e2 => ?_⟩
  rw [hs _ _ h5] at e1; rw [hs _ _ k5] at e2
  cases e1; cases e2
  exact h.2 _ _ h5 k5

/-- An object is made ahead of its time. -/
theorem StR.early (h : StR P f0 σ0 w0 f σ w) {b : Nat} {t : Nat × Nat × Nat} (hb : σ0.next ≤ b ∧ b < σ.next) (hf : f b = none) (hm : Makes w w' t) : StR P f0 σ0 w0 (upd f b t) σ w' := by
  have hne : ∀ x o, σ.heap.get x = some o → x ≠ b := fun x o hg e => by
    obtain ⟨u, hu, _⟩ := (h.rel.obj x o hg).home
    rw [e, hf] at hu; cases hu
  have hold : ∀ i, i < w.heap.size → w'.heap[i]? = w.heap[i]? := hm.old
  refine ⟨⟨fun x o hg => ?_, h.rel.lt, fun x x' o o' u u' g1 g2 hn hr e1 e2 => ?_⟩, h.sub.trans (sub_upd t hf), fun x hx => ?_, h.nx, h.fl, Nat.le_trans h.sz (Nat.le_of_lt hm.size), fun rb hr hno => ?_, fun x o u hg hu => ?_, hm.out.trans h.out, hm.os.trans h.os⟩
  · obtain ⟨u, hu, hul⟩ := (h.rel.obj x o hg).home
    exact ((h.rel.obj x o hg).congr hu (hold _ hul)).mono (sub_upd t hf)
  · rw [upd_other f t (hne x o g1)] at e1
    rw [upd_other f t (hne x' o' g2)] at e2
    exact h.rel.inj x x' o o' u u' g1 g2 hn hr e1 e2
  · rw [upd_other f t (fun e => hx (by rw [e]; exact hb))]
    exact h.off x hx
  · rw [hold rb (Nat.lt_of_lt_of_le hr h.sz)]; exact h.kept rb hr hno
  · rw [upd_other f t (hne x o hg)] at hu
    exact h.fresh x o u hg hu
theorem Pend.early (hx : Pend P f σ w z x) {b : Nat} {t : Nat × Nat × Nat} (hR : Rel P f σ w) (hf : f b = none) (hm : Makes w w' t) : Pend P (upd f b t) σ w' z x := by
  obtain ⟨h1, h2, h3, h4, u, h5, h6, h7⟩ := hx
  obtain ⟨u2, h8, h9⟩ := h2.home
  rw [h5] at h8; cases h8
  refine ⟨h1, (h2.congr h5 (hm.old _ h9)).mono (sub_upd t hf), h3, h4, u, sub_upd t hf _ _ h5, h6, fun y o v hg hv => ?_⟩
  have hne : y ≠ b := fun e => by
    obtain ⟨u', hu, _⟩ := (hR.obj y o hg).home
    rw [e, hf] at hu; cases hu
  rw [upd_other f t hne] at hv
  exact h7 y o v hg hv
theorem Pend.new {b : Nat} {t : Nat × Nat × Nat} {ob : AObj} (hR : Rel P f σ w) (hf : f b = none) (hm : Makes w w' t) (hb : b < σ.next) (hz : z ≤ w.heap.size) (hrw : ob.rw = true) (ho : ObjR P (upd f b t) w' b ob) : Pend P (upd f b t) σ w' z (b, ob) := by
  have hne : ∀ x o, σ.heap.get x = some o → x ≠ b := fun x o hg e => by
    obtain ⟨u, hu, _⟩ := (hR.obj x o hg).home
    rw [e, hf] at hu; cases hu
  refine ⟨hrw, ho, ?_, hb, t, upd_same f b t, by rw [hm.at_]; exact hz, fun y o v hg hv => ?_⟩
  · cases hg : σ.heap.get b with
    | none => rfl
    | some o => exact absurd rfl (hne b o hg)
  · rw [upd_other f t (hne y o hg)] at hv
    obtain ⟨u, hu, hul⟩ := (hR.obj y o hg).home
    rw [hu] at hv; cases hv
    rw [hm.at_]; omega
theorem Apart2.new {b : Nat} {t : Nat × Nat × Nat} {ob : AObj} (hx : Pend P f σ w z x) (hf : f b = none) (hm : Makes w w' t) : Apart2 (upd f b t) (b, ob) x ∧ Apart2 (upd f b t) x (b, ob) := by
  obtain ⟨h1, h2, h3, h4, u, h5, h6, h7⟩ := hx
  obtain ⟨u2, h8, h9⟩ := h2.home
  rw [h5] at h8; cases h8
  have hne : x.1 ≠ b := fun e => by rw [e, hf] at h5; cases h5
  have key : ∀ p q, upd f b t b = some p → upd f b t x.1 = some q → p.1 ≠ q.1 := fun p q e1 e2 => by
    rw [upd_same] at e1; cases e1
    rw [upd_other f t hne, h5] at e2; cases e2
    rw [hm.at_]; omega
  exact ⟨⟨Ne.symm hne, key⟩, ⟨hne, fun p q e1 e2 => Ne.symm (key q p e2 e1)⟩⟩

def lays : List It → List (Nat × AObj)
  | [] => []
  | .lay b o :: r => (b, o) :: lays r
  | .st _ :: r => lays r
theorem lays_append : ∀ (A B : List It), lays (A ++ B) = lays A ++ lays B
  | [], _ => rfl
  | .lay _ _ :: A, B => by simp only [List.cons_append, lays]; rw [lays_append A B]
  | .st _ :: A, B => by simp only [List.cons_append, lays]; rw [lays_append A B]
theorem lays_filter : ∀ (S : List It), lays (S.filter (keep i)) = lays S
  | [] => rfl
  | .lay b o :: S => by rw [List.filter_cons_of_pos rfl]; simp only [lays]; rw [lays_filter S]
  | .st s :: S => by
    cases hk : keep i (.st s) with
    | true => rw [List.filter_cons_of_pos hk]; simp only [lays]; exact lays_filter S
    | false => rw [List.filter_cons_of_neg (by rw [hk]; simp)]; simp only [lays]; exact lays_filter S
def isSt : It → Bool
  | .st _ => true
  | _ => false
theorem stepsOf_isSt : ∀ (S : List It), stepsOf (S.filter isSt) = stepsOf S
  | [] => rfl
  | .lay b o :: S => by rw [List.filter_cons_of_neg (by simp [isSt])]; exact stepsOf_isSt S
  | .st s :: S => by rw [List.filter_cons_of_pos rfl]; simp only [stepsOf]; rw [stepsOf_isSt S]
theorem lays_isSt : ∀ (S : List It), lays (S.filter isSt) = []
  | [] => rfl
  | .lay b o :: S => by rw [List.filter_cons_of_neg (by simp [isSt])]; exact lays_isSt S
  | .st s :: S => by rw [List.filter_cons_of_pos rfl]; exact lays_isSt S

theorem lays_out (rest : List It) : ∀ (S1 A : List It) (σ : AS), (∀ q ∈ A, q.fine) → (∀ q ∈ S1, q.fine ∨ ∃ b o, q = .lay b o) → run G base (A ++ (S1 ++ rest)) tm σ = some R → StR P f0 σ0 w0 f σ w →
    (∀ x ∈ lays (S1 ++ rest), Pend P f σ w w0.heap.size x) → (lays (S1 ++ rest)).Pairwise (Apart2 f) →
    ∃ σ', run G base ((A ++ S1.filter isSt) ++ rest) tm σ' = some R ∧ StR P f0 σ0 w0 f σ' w ∧ σ'.next = σ.next ∧ σ'.floor = σ.floor ∧ (∀ x ∈ lays rest, Pend P f σ' w w0.heap.size x) ∧ (lays rest).Pairwise (Apart2 f)
  | [], A, σ, _, _, h, hs, hp, ha => ⟨σ, by simpa using h, hs, rfl, rfl, hp, ha⟩
  | .st s :: S1, A, σ, hA, hf, h, hs, hp, ha => by
    have hq : It.fine (.st s) := (hf _ (List.mem_cons_self ..)).resolve_right (fun ⟨_, _, e⟩ => by cases e)
    obtain ⟨σ', k1, k2⟩ := lays_out rest S1 (A ++ [.st s]) σ (fun q hq' => by
      rcases List.mem_append.1 hq' with h | h
      · exact hA q h
      · rw [List.mem_singleton.1 h]; exact hq) (fun q hq' => hf q (List.mem_cons_of_mem _ hq')) (by simpa using h) hs hp ha
    refine ⟨σ', ?_, k2⟩
    rw [List.filter_cons_of_pos rfl]
    simpa using k1
  | .lay b o :: S1, A, σ, hA, hf, h, hs, hp, ha => by
    have hp0 := hp (b, o) (List.mem_cons_self ..)
    have ha' : ((b, o) :: lays (S1 ++ rest)).Pairwise (Apart2 f) := ha
    obtain ⟨a1, a2⟩ := List.pairwise_cons.1 ha'
    have h' := lay_front hA hp0.2.2.1 h
    obtain ⟨σ', k1, k2, k3, k4, k5⟩ := lays_out rest S1 A _ hA (fun q hq' => hf q (List.mem_cons_of_mem _ hq')) h' (hs.lay hp0) (fun x hx => (hp x (List.mem_cons_of_mem _ hx)).lay (a1 x hx)) a2
    refine ⟨σ', ?_, k2, k3, k4, k5⟩
    rw [List.filter_cons_of_neg (by simp [isSt])]
    exact k1

end
end Go.AM
