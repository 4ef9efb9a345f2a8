/- What an operation looks at. -/
import Derived.Test.YtbapopkhebnbpaaAm23
namespace Go.AM
open Go

namespace T
variable {α : Type}
theorem left_n (l : T α) (v : Option α) (r : T α) : (n l v r).left = l := rfl
theorem right_n (l : T α) (v : Option α) (r : T α) : (n l v r).right = r := rfl
theorem val_n (l : T α) (v : Option α) (r : T α) : (n l v r).val = v := rfl
theorem setF_comm : ∀ (f g : Nat) (t : T α) (k j : Nat) (x y : Option α), k < f → j < g → k ≠ j → setF g (setF f t k x) j y = setF f (setF g t j y) k x := by
  have hb : ∀ a b : Nat, Nat.beq a b = decide (a = b) := fun a b => by
    cases h : Nat.beq a b
    · have := Nat.ne_of_beq_eq_false h; simp [this]
    · have := Nat.eq_of_beq_eq_true h; simp [this]
  intro f
  induction f with
  | zero => intro g t k j x y h; omega
  | succ f ih =>
    intro g t k j x y h1 h2 hne
    cases g with
    | zero => omega
    | succ g =>
      simp only [setF_succ, hb]
      by_cases k0 : k = 0
      · subst k0
        have j0 : ¬ j = 0 := Ne.symm hne
        by_cases j1 : j % 2 = 1 <;> simp [j0, j1, left, right, val]
      · by_cases j0 : j = 0
        · subst j0
          by_cases k1 : k % 2 = 1 <;> simp [k0, k1, left, right, val]
        · by_cases k1 : k % 2 = 1 <;> by_cases j1 : j % 2 = 1 <;> simp only [k0, j0, k1, j1, decide_true, decide_false, cond_true, cond_false, left_n, right_n, val_n]
          · rw [ih g t.left (k / 2) (j / 2) x y (by omega) (by omega) (by omega)]
          · rw [ih g t.right (k / 2 - 1) (j / 2 - 1) x y (by omega) (by omega) (by omega)]
theorem put_comm (t : T α) {k j : Nat} (x y : Option α) (h : k ≠ j) : (t.put k x).put j y = (t.put j y).put k x := setF_comm _ _ t k j x y (Nat.lt_succ_self _) (Nat.lt_succ_self _) h
end T

variable {tm tm2 : T AV} {σ σ2 σ' : AS} {v : AV} {G : Fns}

theorem opd_congr {x : AOpd} (h : ∀ t ∈ oSlots x, tm.get t = tm2.get t) : opd x tm = opd x tm2 := by
  cases x with
  | tmp t => exact h t (List.mem_singleton.2 rfl)
  | const _ => rfl
  | func _ => rfl
theorem opdO_congr {x : Option AOpd} (h : ∀ t ∈ ooSlots x, tm.get t = tm2.get t) : opdO x tm = opdO x tm2 := by
  cases x with
  | none => rfl
  | some y => simp only [opdO]; rw [opd_congr h]
theorem opds_congr : ∀ {l : List AOpd}, (∀ t ∈ lSlots l, tm.get t = tm2.get t) → opds l tm = opds l tm2
  | [], _ => rfl
  | x :: l, h => by
    rw [opds_cons, opds_cons, opd_congr (x := x) fun t ht => h t (List.mem_append_left _ ht), opds_congr (l := l) fun t ht => h t (List.mem_append_right _ ht)]
theorem partsOf_congr : ∀ {l : List (Nat × Nat × AOpd)}, (∀ t ∈ pSlots l, tm.get t = tm2.get t) → partsOf l tm = partsOf l tm2
  | [], _ => rfl
  | (o, n, x) :: l, h => by
    simp only [partsOf]
    rw [opd_congr (x := x) fun t ht => h t (List.mem_append_left _ ht), partsOf_congr (l := l) fun t ht => h t (List.mem_append_right _ ht)]

theorem opV_congr {ao : AOp} (h : ∀ t ∈ slots ao, tm.get t = tm2.get t) : opV ao tm σ = opV ao tm2 σ := by
  cases ao
  case mv x =>
    show op_mv x tm σ = op_mv x tm2 σ
    unfold op_mv
    rw [opd_congr (x := x) h]
  case box x =>
    show op_box x tm σ = op_box x tm2 σ
    unfold op_box
    rw [opd_congr (x := x) h]
  case load s x =>
    show op_load s x tm σ = op_load s x tm2 σ
    unfold op_load
    rw [opd_congr (x := x) h]
  case nilCheck x =>
    show op_nilCheck x tm σ = op_nilCheck x tm2 σ
    unfold op_nilCheck
    rw [opd_congr (x := x) h]
  case eqNilS n x =>
    show op_eqNilS n x tm σ = op_eqNilS n x tm2 σ
    unfold op_eqNilS
    rw [opd_congr (x := x) h]
  case eqNilP n x =>
    show op_eqNilP n x tm σ = op_eqNilP n x tm2 σ
    unfold op_eqNilP
    rw [opd_congr (x := x) h]
  case not x =>
    show op_not x tm σ = op_not x tm2 σ
    unfold op_not
    rw [opd_congr (x := x) h]
  case neg x =>
    show op_neg x tm σ = op_neg x tm2 σ
    unfold op_neg
    rw [opd_congr (x := x) h]
  case conv k x =>
    show op_conv k x tm σ = op_conv k x tm2 σ
    unfold op_conv
    rw [opd_congr (x := x) h]
  case strBytes e x =>
    show op_strBytes e x tm σ = op_strBytes e x tm2 σ
    unfold op_strBytes
    rw [opd_congr (x := x) h]
  case strRunes e x =>
    show op_strRunes e x tm σ = op_strRunes e x tm2 σ
    unfold op_strRunes
    rw [opd_congr (x := x) h]
  case sameBytes x =>
    show op_sameBytes x tm σ = op_sameBytes x tm2 σ
    unfold op_sameBytes
    rw [opd_congr (x := x) h]
  case fieldAddr f x =>
    show op_fieldAddr f x tm σ = op_fieldAddr f x tm2 σ
    unfold op_fieldAddr
    rw [opd_congr (x := x) h]
  case field f s x =>
    show op_field f s x tm σ = op_field f s x tm2 σ
    unfold op_field
    rw [opd_congr (x := x) h]
  case extract x i =>
    show op_extract x i tm σ = op_extract x i tm2 σ
    unfold op_extract
    rw [opd_congr (x := x) h]
  case lenStr x =>
    show op_lenStr x tm σ = op_lenStr x tm2 σ
    unfold op_lenStr
    rw [opd_congr (x := x) h]
  case lenSlc x =>
    show op_lenSlc x tm σ = op_lenSlc x tm2 σ
    unfold op_lenSlc
    rw [opd_congr (x := x) h]
  case lenMap x =>
    show op_lenMap x tm σ = op_lenMap x tm2 σ
    unfold op_lenMap
    rw [opd_congr (x := x) h]
  case clear z x =>
    show op_clear z x tm σ = op_clear z x tm2 σ
    unfold op_clear
    rw [opd_congr (x := x) h]
  case store n a b =>
    show op_store n a b tm σ = op_store n a b tm2 σ
    unfold op_store
    rw [opd_congr (x := a) fun t ht => h t (List.mem_append_left _ ht), opd_congr (x := b) fun t ht => h t (List.mem_append_right _ ht)]
  case bin o a b =>
    show op_bin o a b tm σ = op_bin o a b tm2 σ
    unfold op_bin
    rw [opd_congr (x := a) fun t ht => h t (List.mem_append_left _ ht), opd_congr (x := b) fun t ht => h t (List.mem_append_right _ ht)]
  case eqAgg n g a b =>
    show op_eqAgg n g a b tm σ = op_eqAgg n g a b tm2 σ
    unfold op_eqAgg
    rw [opd_congr (x := a) fun t ht => h t (List.mem_append_left _ ht), opd_congr (x := b) fun t ht => h t (List.mem_append_right _ ht)]
  case eqB g a b =>
    show op_eqB g a b tm σ = op_eqB g a b tm2 σ
    unfold op_eqB
    rw [opd_congr (x := a) fun t ht => h t (List.mem_append_left _ ht), opd_congr (x := b) fun t ht => h t (List.mem_append_right _ ht)]
  case mkSlice e y z a b =>
    show op_mkSlice e y z a b tm σ = op_mkSlice e y z a b tm2 σ
    unfold op_mkSlice
    rw [opd_congr (x := a) fun t ht => h t (List.mem_append_left _ ht), opd_congr (x := b) fun t ht => h t (List.mem_append_right _ ht)]
  case idxAddrS e a b =>
    show op_idxAddrS e a b tm σ = op_idxAddrS e a b tm2 σ
    unfold op_idxAddrS
    rw [opd_congr (x := a) fun t ht => h t (List.mem_append_left _ ht), opd_congr (x := b) fun t ht => h t (List.mem_append_right _ ht)]
  case idxAddrA n e a b =>
    show op_idxAddrA n e a b tm σ = op_idxAddrA n e a b tm2 σ
    unfold op_idxAddrA
    rw [opd_congr (x := a) fun t ht => h t (List.mem_append_left _ ht), opd_congr (x := b) fun t ht => h t (List.mem_append_right _ ht)]
  case idxA n e s a b =>
    show op_idxA n e s a b tm σ = op_idxA n e s a b tm2 σ
    unfold op_idxA
    rw [opd_congr (x := a) fun t ht => h t (List.mem_append_left _ ht), opd_congr (x := b) fun t ht => h t (List.mem_append_right _ ht)]
  case idxStr a b =>
    show op_idxStr a b tm σ = op_idxStr a b tm2 σ
    unfold op_idxStr
    rw [opd_congr (x := a) fun t ht => h t (List.mem_append_left _ ht), opd_congr (x := b) fun t ht => h t (List.mem_append_right _ ht)]
  case lookup n z a b o =>
    show op_lookup n z a b o tm σ = op_lookup n z a b o tm2 σ
    unfold op_lookup
    rw [opd_congr (x := a) fun t ht => h t (List.mem_append_left _ ht), opd_congr (x := b) fun t ht => h t (List.mem_append_right _ ht)]
  case mapEntry n z a b =>
    show op_mapEntry n z a b tm σ = op_mapEntry n z a b tm2 σ
    unfold op_mapEntry
    rw [opd_congr (x := a) fun t ht => h t (List.mem_append_left _ ht), opd_congr (x := b) fun t ht => h t (List.mem_append_right _ ht)]
  case append e s y a b =>
    show op_append e s y a b tm σ = op_append e s y a b tm2 σ
    unfold op_append
    rw [opd_congr (x := a) fun t ht => h t (List.mem_append_left _ ht), opd_congr (x := b) fun t ht => h t (List.mem_append_right _ ht)]
  case copy e a b =>
    show op_copy e a b tm σ = op_copy e a b tm2 σ
    unfold op_copy
    rw [opd_congr (x := a) fun t ht => h t (List.mem_append_left _ ht), opd_congr (x := b) fun t ht => h t (List.mem_append_right _ ht)]
  case delete n a b =>
    show op_delete n a b tm σ = op_delete n a b tm2 σ
    unfold op_delete
    rw [opd_congr (x := a) fun t ht => h t (List.mem_append_left _ ht), opd_congr (x := b) fun t ht => h t (List.mem_append_right _ ht)]
  case mapUpdate n a b c =>
    show op_mapUpdate n a b c tm σ = op_mapUpdate n a b c tm2 σ
    unfold op_mapUpdate
    rw [opd_congr (x := a) fun t ht => h t (List.mem_append_left _ ht), opd_congr (x := b) fun t ht => h t (List.mem_append_right _ (List.mem_append_left _ ht)), opd_congr (x := c) fun t ht => h t (List.mem_append_right _ (List.mem_append_right _ ht))]
  case entryStore a b c =>
    show op_entryStore a b c tm σ = op_entryStore a b c tm2 σ
    unfold op_entryStore
    rw [opd_congr (x := a) fun t ht => h t (List.mem_append_left _ ht), opd_congr (x := b) fun t ht => h t (List.mem_append_right _ (List.mem_append_left _ ht)), opd_congr (x := c) fun t ht => h t (List.mem_append_right _ (List.mem_append_right _ ht))]
  case pick a b c =>
    show op_pick a b c tm σ = op_pick a b c tm2 σ
    unfold op_pick
    rw [opd_congr (x := a) fun t ht => h t (List.mem_append_left _ ht), opd_congr (x := b) fun t ht => h t (List.mem_append_right _ (List.mem_append_left _ ht)), opd_congr (x := c) fun t ht => h t (List.mem_append_right _ (List.mem_append_right _ ht))]
  case slice e s x a b c =>
    show op_slice e s x a b c tm σ = op_slice e s x a b c tm2 σ
    unfold op_slice
    rw [opd_congr (x := x) fun t ht => h t (List.mem_append_left _ ht), opdO_congr (x := a) fun t ht => h t (List.mem_append_right _ (List.mem_append_left _ ht)), opdO_congr (x := b) fun t ht => h t (List.mem_append_right _ (List.mem_append_right _ (List.mem_append_left _ ht))), opdO_congr (x := c) fun t ht => h t (List.mem_append_right _ (List.mem_append_right _ (List.mem_append_right _ ht)))]
  case sliceArr n e s x a b c =>
    show op_sliceArr n e s x a b c tm σ = op_sliceArr n e s x a b c tm2 σ
    unfold op_sliceArr
    rw [opd_congr (x := x) fun t ht => h t (List.mem_append_left _ ht), opdO_congr (x := a) fun t ht => h t (List.mem_append_right _ (List.mem_append_left _ ht)), opdO_congr (x := b) fun t ht => h t (List.mem_append_right _ (List.mem_append_right _ (List.mem_append_left _ ht))), opdO_congr (x := c) fun t ht => h t (List.mem_append_right _ (List.mem_append_right _ (List.mem_append_right _ ht)))]
  case sliceStr x a b =>
    show op_sliceStr x a b tm σ = op_sliceStr x a b tm2 σ
    unfold op_sliceStr
    rw [opd_congr (x := x) fun t ht => h t (List.mem_append_left _ ht), opdO_congr (x := a) fun t ht => h t (List.mem_append_right _ (List.mem_append_left _ ht)), opdO_congr (x := b) fun t ht => h t (List.mem_append_right _ (List.mem_append_right _ ht))]
  case build z ps =>
    show op_build z ps tm σ = op_build z ps tm2 σ
    unfold op_build
    rw [partsOf_congr (l := ps) h]
  case buildSlice e n z ps =>
    show op_buildSlice e n z ps tm σ = op_buildSlice e n z ps tm2 σ
    unfold op_buildSlice
    rw [partsOf_congr (l := ps) h]
  case mkFunc f a b =>
    show op_mkFunc f a b tm σ = op_mkFunc f a b tm2 σ
    unfold op_mkFunc
    rw [opds_congr (l := a) fun t ht => h t (List.mem_append_left _ ht), opds_congr (l := b) fun t ht => h t (List.mem_append_right _ ht)]
  case min l =>
    show op_min l tm σ = op_min l tm2 σ
    unfold op_min
    rw [opds_congr (l := l) h]
  case max l =>
    show op_max l tm σ = op_max l tm2 σ
    unfold op_max
    rw [opds_congr (l := l) h]
  case new z => rfl
  case mkMap => rfl
  case call f l => rfl
theorem opAny_congr {ao : AOp} (h : ∀ t ∈ slots ao, tm.get t = tm2.get t) : opAny G ao tm σ = opAny G ao tm2 σ := by
  cases hc : callParts ao with
  | none => rw [opAny_none hc]; exact opV_congr h
  | some p =>
    obtain ⟨f, l⟩ := p
    cases ao <;> first | (cases hc; done) | skip
    cases hc
    rw [opAny_call rfl]
    unfold opCall
    rw [opd_congr (x := f) fun t ht => h t (List.mem_append_left _ ht), opds_congr (l := l) fun t ht => h t (List.mem_append_right _ ht)]
theorem wanted_congr {g : Option (Nat × Bool)} (h : ∀ t ∈ gSlots g, tm.get t = tm2.get t) : wanted g tm = wanted g tm2 := by
  cases g with
  | none => rfl
  | some p => obtain ⟨s, q⟩ := p; simp only [wanted]; rw [h s (List.mem_singleton.2 rfl)]

/-- The memory does not count. -/
def Free (F : AS → Option (AV × AS)) : Prop := ∀ σ σ2 v σ', F σ = some (v, σ') → F σ2 = some (v, σ2)
theorem free_none : Free fun _ => none := fun _ _ _ _ h => by cases h
theorem free_some (u : AV) : Free fun σ => some (u, σ) := fun _ _ _ _ h => by cases h; rfl
theorem free_map {x : Option AV} : Free fun σ => x.map fun v => (v, σ) := fun _ _ _ _ h => by obtain ⟨_, e, h⟩ := map_some h; cases h; simp [e]
theorem free_map' {α : Type} {x : Option α} {g : α → AV} : Free fun σ => x.map fun v => (g v, σ) := fun _ _ _ _ h => by obtain ⟨_, e, h⟩ := map_some h; cases h; simp [e]
theorem free_bind {α : Type} {x : Option α} {g : α → AS → Option (AV × AS)} (h : ∀ a, Free (g a)) : Free fun σ => x.bind fun a => g a σ := fun σ σ2 v σ' e => by
  obtain ⟨a, e1, e2⟩ := bind_some e
  simp only [e1, Option.bind_some]
  exact h a _ _ _ _ e2
theorem free_bif {c : Bool} {x y : AS → Option (AV × AS)} (h : Free x) (k : Free y) : Free fun σ => bif c then x σ else y σ := by cases c; exact k; exact h

theorem free_pure {ao : AOp} (hc : cls ao = 0) : Free (opV ao tm) := by
  cases ao <;> first | (simp [cls] at hc; done) | skip
  case mv => exact free_map
  case pick c a b =>
    show Free fun σ => op_pick c a b tm σ
    refine free_bind fun u => ?_
    cases u <;> first | exact free_map | exact free_none
  case build z ps => exact free_bind fun u => free_map'
  case nilCheck x =>
    refine free_bind fun u => ?_
    rcases u with _ | _ | _ | (_ | _) | _ | _ | _ | _ | _ | _ | _ <;> first | exact free_some _ | exact free_none
  case bin => exact free_bind fun u => free_bind fun u => free_map
  case eqAgg =>
    refine free_bind fun u => free_bind fun u' => ?_
    cases u <;> cases u' <;> first | exact free_bif free_map' free_none | exact free_none
  case eqB =>
    refine free_bind fun u => free_bind fun u' => ?_
    cases u <;> cases u' <;> first | exact free_some _ | exact free_none
  case eqNilS =>
    refine free_bind fun u => ?_
    cases u <;> first | exact free_some _ | exact free_none
  case eqNilP =>
    refine free_bind fun u => ?_
    cases u <;> first | exact free_some _ | exact free_none
  case not =>
    refine free_bind fun u => ?_
    cases u <;> first | exact free_some _ | exact free_none
  case neg =>
    refine free_bind fun u => ?_
    cases u <;> first | exact free_some _ | exact free_none
  case conv =>
    refine free_bind fun u => ?_
    cases u <;> first | exact free_some _ | exact free_none
  case mkFunc => exact free_bind fun u => free_map'
  case slice => exact free_bind fun u => free_bind fun u => free_bind fun u => free_bind fun u => free_map
  case sliceArr =>
    refine free_bind fun u => free_bind fun _ => free_bind fun _ => free_bind fun _ => ?_
    rcases u with _ | _ | _ | (_ | ⟨_, _⟩) | _ | _ | _ | _ | _ | _ | _ <;> first | exact free_map' (g := fun x => AV.slc _ _ _ _ _) | exact free_none
  case sliceStr =>
    refine free_bind fun u => free_bind fun _ => free_bind fun _ => ?_
    cases u <;> first | exact free_map' (g := fun x => AV.str _) | exact free_none
  case fieldAddr =>
    refine free_bind fun u => ?_
    rcases u with _ | _ | _ | (_ | ⟨_, _⟩) | _ | _ | _ | _ | _ | _ | _ <;> first | exact free_some _ | exact free_none
  case field =>
    refine free_bind fun u => ?_
    cases u <;> first | exact free_map | exact free_none
  case idxAddrS =>
    refine free_bind fun u => free_bind fun _ => free_bind fun _ => ?_
    rcases u with _ | _ | _ | _ | ⟨_ | ⟨_, _⟩, _⟩ | _ | _ | _ | _ | _ | _ <;> first | exact free_bif (free_some _) free_none | exact free_none
  case idxAddrA =>
    refine free_bind fun u => free_bind fun _ => free_bind fun _ => ?_
    rcases u with _ | _ | _ | (_ | ⟨_, _⟩) | _ | _ | _ | _ | _ | _ | _ <;> first | exact free_bif (free_some _) free_none | exact free_none
  case idxA =>
    refine free_bind fun u => free_bind fun _ => free_bind fun _ => ?_
    cases u <;> first | exact free_bif free_map free_none | exact free_none
  case idxStr =>
    refine free_bind fun u => free_bind fun _ => free_bind fun _ => ?_
    cases u <;> first | exact free_map' | exact free_none
  case extract =>
    refine free_bind fun u => ?_
    cases u <;> first | exact free_map | exact free_none
  case lenStr =>
    refine free_bind fun u => ?_
    cases u <;> first | exact free_some _ | exact free_none
  case lenSlc =>
    refine free_bind fun u => ?_
    cases u <;> first | exact free_some _ | exact free_none
  case min =>
    refine free_bind fun u => ?_
    cases u <;> first | exact free_map | exact free_none
  case max =>
    refine free_bind fun u => ?_
    cases u <;> first | exact free_map | exact free_none

/-- What reads memory reads the same where there is more. -/
theorem read_grow {ao : AOp} (hc : cls ao = 1) (hs : ∀ b o, σ.heap.get b = some o → σ2.heap.get b = some o) (h : opV ao tm σ = some (v, σ')) : σ' = σ ∧ opV ao tm σ2 = some (v, σ2) := by
  have hcells : ∀ b c, σ.cellsOf b = some c → σ2.cellsOf b = some c := fun b c e => by
    unfold AS.cellsOf at e ⊢
    cases hg : σ.heap.get b with
    | none => rw [hg] at e; cases e
    | some o => rw [hs b o hg]; rw [hg] at e; exact e
  cases ao <;> first | (simp [cls] at hc; done) | skip
  case load s x =>
    have h : op_load s x tm σ = some (v, σ') := h
    obtain ⟨u, h1, h⟩ := bind_some h
    obtain ⟨r, h2, h⟩ := map_some h
    cases h
    refine ⟨rfl, ?_⟩
    show op_load s x tm σ2 = _
    have h3 : loadV σ2 s u = some v := by
      unfold loadV at h2 ⊢
      split at h2
      · obtain ⟨c, e1, e2⟩ := bind_some h2
        show (σ2.cellsOf _).bind _ = _
        rw [hcells _ _ e1]; exact e2
      · obtain ⟨l, e1, e2⟩ := map_some h2
        obtain ⟨c, e3, e4⟩ := bind_some e1
        have hr : ∀ b q n, σ.readN b q n = some l → σ2.readN b q n = some l := fun b q n e => by
          obtain ⟨c, e5, e6⟩ := bind_some e
          unfold AS.readN; rw [hcells _ _ e5]; exact e6
        rw [hr _ _ _ e1]; exact congrArg some e2
      · cases h2
    unfold op_load
    rw [h1, Option.bind_some, h3]; rfl
  case lookup n z m k o =>
    have h : op_lookup n z m k o tm σ = some (v, σ') := h
    obtain ⟨um, h1, h⟩ := bind_some h
    obtain ⟨uk, h2, h⟩ := bind_some h
    obtain ⟨r, h3, h⟩ := map_some h
    cases h
    refine ⟨rfl, ?_⟩
    show op_lookup n z m k o tm σ2 = _
    have h4 : lookIn n σ2 um uk = some r := by
      cases um with
      | map a =>
        cases a with
        | none => exact h3
        | some b =>
          unfold lookIn at h3 ⊢
          dsimp only at h3 ⊢
          cases hg : σ.heap.get b with
          | none => rw [hg] at h3; cases h3
          | some ob => rw [hg] at h3; rw [hs b ob hg]; exact h3
      | _ => cases h3
    unfold op_lookup
    rw [h1, Option.bind_some, h2, Option.bind_some, h4]; rfl
  case lenMap x =>
    have h : op_lenMap x tm σ = some (v, σ') := h
    obtain ⟨u, h1, h⟩ := bind_some h
    cases u with
    | map a =>
      cases a with
      | none =>
        cases h
        refine ⟨rfl, ?_⟩
        show op_lenMap x tm σ2 = _
        unfold op_lenMap
        rw [h1]; rfl
      | some r =>
        dsimp only at h
        cases hg : σ.heap.get r with
        | none => rw [hg] at h; cases h
        | some ob =>
          rw [hg] at h
          cases ob <;> first | (cases h; done) | skip
          cases h
          refine ⟨rfl, ?_⟩
          show op_lenMap x tm σ2 = _
          unfold op_lenMap
          rw [h1, Option.bind_some]
          dsimp only
          rw [hs r _ hg]
    | _ => cases h

end Go.AM
