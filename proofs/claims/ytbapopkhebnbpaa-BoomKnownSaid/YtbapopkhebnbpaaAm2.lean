/- How the small machine's values and memory stand for the model's. -/
import Derived.Test.YtbapopkhebnbpaaAm1
import Derived.Laws.IdiomCopy
import Derived.Calls
namespace Go.AM
open Go

namespace T
variable {α : Type}
@[simp] theorem get_e (k : Nat) : (e : T α).get k = none := rfl
theorem get_n (l : T α) (v : Option α) (r : T α) (k : Nat) : (n l v r).get k = bif Nat.beq k 0 then v else bif Nat.beq (k % 2) 1 then l.get (k / 2) else r.get (k / 2 - 1) := rfl
theorem setF_succ (f : Nat) (t : T α) (k : Nat) (x : Option α) : setF (f + 1) t k x =
    bif Nat.beq k 0 then n t.left x t.right else bif Nat.beq (k % 2) 1 then n (setF f t.left (k / 2) x) t.val t.right else n t.left t.val (setF f t.right (k / 2 - 1) x) := rfl
theorem get_eta (t : T α) (k : Nat) : t.get k = (n t.left t.val t.right).get k := by
  cases t with
  | e => rw [get_n]; cases h : Nat.beq k 0 <;> cases h2 : Nat.beq (k % 2) 1 <;> simp [left, right, val]
  | n l v r => rfl
theorem get_setF (f : Nat) : ∀ (t : T α) (k : Nat) (x : Option α) (j : Nat), k < f → (setF f t k x).get j = if j = k then x else t.get j := by
  induction f with
  | zero => intro t k x j h; omega
  | succ f ih =>
    intro t k x j h
    rw [setF_succ, get_eta t j]
    have hb : ∀ a b : Nat, Nat.beq a b = decide (a = b) := fun a b => by
      cases h : Nat.beq a b
      · have := Nat.ne_of_beq_eq_false h; simp [this]
      · have := Nat.eq_of_beq_eq_true h; simp [this]
    simp only [hb]
    by_cases k0 : k = 0
    · subst k0
      simp only [decide_true, cond_true, get_n, hb]
      by_cases j0 : j = 0
      · simp [j0]
      · simp [j0]
    · simp only [k0, decide_false, cond_false]
      by_cases k1 : k % 2 = 1
      · simp only [k1, decide_true, cond_true, get_n, hb, ih _ _ _ _ (show k / 2 < f by omega)]
        by_cases j0 : j = 0
        · subst j0; simp [Ne.symm k0]
        · by_cases j1 : j % 2 = 1
          · have : (j / 2 = k / 2) ↔ j = k := by omega
            simp [j0, j1, this]
          · have : j ≠ k := by omega
            simp [j0, j1, this]
      · simp only [k1, decide_false, cond_false, get_n, hb, ih _ _ _ _ (show k / 2 - 1 < f by omega)]
        by_cases j0 : j = 0
        · subst j0; simp [Ne.symm k0]
        · by_cases j1 : j % 2 = 1
          · have : j ≠ k := by omega
            simp [j0, j1, this]
          · have : (j / 2 - 1 = k / 2 - 1) ↔ j = k := by omega
            simp [j0, j1, this]
theorem get_put (t : T α) (k : Nat) (x : Option α) (j : Nat) : (t.put k x).get j = if j = k then x else t.get j := get_setF _ _ _ _ _ (Nat.lt_succ_self k)
end T

abbrev FM := Nat → Option (Nat × Nat × Nat)

/-- The size in cells, and in bytes, of a type. -/
def einfo (P : Program) (t : Nat) : Option (Nat × Nat) := (P.info? t).map fun i => (i.size, i.bytes)

def SlcR (P : Program) (rb p rs cap et : Nat) (ck : CK) (a : Addr) (rcap : Nat) : Prop :=
  (rcap = 0 ∨ a = ⟨rb, p, none⟩) ∧
  match ck with
  | .exact => rcap = cap
  | .tail => ∃ sz by_, einfo P et = some (sz, by_) ∧ (rcap = 0 ∨ p + rcap * sz = rs) ∧ True
  | .opaq => True

mutual
def VR (P : Program) (f : FM) : AV → Value → Prop
  | .bool b, v => v = .bool b
  | .int k n, v => v = .int k n
  | .str s, v => ∃ b : ByteArray, v = .string b ∧ b.data.toList.map UInt8.toNat = s
  | .ptr none, v => v = .pointer none
  | .ptr (some (b, o)), v => ∃ rb off rs, f b = some (rb, off, rs) ∧ v = .pointer (some ⟨rb, off + o, none⟩)
  | .slc none len cap _ _, v => len = 0 ∧ cap = 0 ∧ v = .slice none 0 0
  | .slc (some (b, o)) len cap et ck, v => ∃ rb off rs a rcap, f b = some (rb, off, rs) ∧ v = .slice (some a) len rcap ∧ len ≤ cap ∧ cap ≤ rcap ∧ SlcR P rb (off + o) rs cap et ck a rcap
  | .map none, v => v = .map none
  | .map (some r), v => ∃ rb off rs, f r = some (rb, off, rs) ∧ v = .map (some rb)
  | .fn g first cap, v => ∃ a c, v = .func (.func g) a c ∧ VRs P f first a.toList ∧ VRs P f cap c.toList
  | .yld l, v => ∃ rb off rs, f l = some (rb, off, rs) ∧ v = .func (.yield rb) #[] #[]
  | .nilFn, v => v = .nilFunc
  | .agg cs, v => ∃ a, v = .agg a ∧ VRs P f cs a.toList
  | .tup vs, v => ∃ a, v = .tuple a ∧ VRs P f vs a.toList
def VRs (P : Program) (f : FM) : List AV → List Value → Prop
  | [], l => l = []
  | x :: xs, l => ∃ v r, l = v :: r ∧ VR P f x v ∧ VRs P f xs r
end

def Sub (f f' : FM) : Prop := ∀ b t, f b = some t → f' b = some t
theorem Sub.refl (f : FM) : Sub f f := fun _ _ h => h
theorem Sub.trans {f g h : FM} (a : Sub f g) (b : Sub g h) : Sub f h := fun x t e => b x t (a x t e)

mutual
theorem VR.mono {P : Program} {f f' : FM} (hs : Sub f f') : ∀ (x : AV) (v : Value), VR P f x v → VR P f' x v
  | .bool _, _, h => by simpa only [VR] using h
  | .int _ _, _, h => by simpa only [VR] using h
  | .str _, _, h => by simpa only [VR] using h
  | .ptr none, _, h => by simpa only [VR] using h
  | .ptr (some (_, _)), _, h => by
    simp only [VR] at h ⊢
    obtain ⟨rb, off, rs, h1, h2⟩ := h
    exact ⟨rb, off, rs, hs _ _ h1, h2⟩
  | .slc none _ _ _ _, _, h => by simpa only [VR] using h
  | .slc (some (_, _)) _ _ _ _, _, h => by
    simp only [VR] at h ⊢
    obtain ⟨rb, off, rs, a, rcap, h1, h2⟩ := h
    exact ⟨rb, off, rs, a, rcap, hs _ _ h1, h2⟩
  | .map none, _, h => by simpa only [VR] using h
  | .map (some _), _, h => by
    simp only [VR] at h ⊢
    obtain ⟨rb, off, rs, h1, h2⟩ := h
    exact ⟨rb, off, rs, hs _ _ h1, h2⟩
  | .fn _ first cap, _, h => by
    simp only [VR] at h ⊢
    obtain ⟨a, c, h1, h2, h3⟩ := h
    exact ⟨a, c, h1, VRs.mono hs first _ h2, VRs.mono hs cap _ h3⟩
  | .yld _, _, h => by
    simp only [VR] at h ⊢
    obtain ⟨rb, off, rs, h1, h2⟩ := h
    exact ⟨rb, off, rs, hs _ _ h1, h2⟩
  | .nilFn, _, h => by simpa only [VR] using h
  | .agg cs, _, h => by
    simp only [VR] at h ⊢
    obtain ⟨a, h1, h2⟩ := h
    exact ⟨a, h1, VRs.mono hs cs _ h2⟩
  | .tup vs, _, h => by
    simp only [VR] at h ⊢
    obtain ⟨a, h1, h2⟩ := h
    exact ⟨a, h1, VRs.mono hs vs _ h2⟩
theorem VRs.mono {P : Program} {f f' : FM} (hs : Sub f f') : ∀ (x : List AV) (v : List Value), VRs P f x v → VRs P f' x v
  | [], _, h => by simpa only [VRs] using h
  | x :: xs, _, h => by
    simp only [VRs] at h ⊢
    obtain ⟨v, r, h1, h2, h3⟩ := h
    exact ⟨v, r, h1, VR.mono hs x _ h2, VRs.mono hs xs _ h3⟩
end

section lists
variable {P : Program} {f : FM}
theorem VRs.length : ∀ {l : List AV} {r : List Value}, VRs P f l r → r.length = l.length
  | [], _, h => by simp only [VRs] at h; simp [h]
  | _ :: l, _, h => by
    simp only [VRs] at h
    obtain ⟨v, r, rfl, _, h3⟩ := h
    simp [VRs.length h3]
theorem VRs.get : ∀ {l : List AV} {r : List Value} {i : Nat} {x : AV}, VRs P f l r → l[i]? = some x → ∃ v, r[i]? = some v ∧ VR P f x v
  | [], _, _, _, _, h => by simp at h
  | y :: l, _, 0, x, hv, h => by
    simp only [VRs] at hv
    obtain ⟨v, r, rfl, h2, _⟩ := hv
    simp at h; subst h
    exact ⟨v, rfl, h2⟩
  | y :: l, _, i + 1, x, hv, h => by
    simp only [VRs] at hv
    obtain ⟨v, r, rfl, _, h3⟩ := hv
    simp at h
    obtain ⟨u, h4, h5⟩ := VRs.get h3 h
    exact ⟨u, by simpa using h4, h5⟩
theorem VRs.of_get : ∀ {l : List AV} {r : List Value}, r.length = l.length → (∀ (i : Nat) (x : AV), l[i]? = some x → ∃ v, r[i]? = some v ∧ VR P f x v) → VRs P f l r
  | [], [], _, _ => by simp [VRs]
  | [], _ :: _, h, _ => by simp at h
  | _ :: _, [], h, _ => by simp at h
  | x :: l, v :: r, h, hg => by
    simp only [VRs]
    refine ⟨v, r, rfl, ?_, VRs.of_get (by simpa using h) (fun i y hy => ?_)⟩
    · obtain ⟨u, h1, h2⟩ := hg 0 x rfl
      simp at h1; subst h1; exact h2
    · obtain ⟨u, h1, h2⟩ := hg (i + 1) y (by simpa using hy)
      exact ⟨u, by simpa using h1, h2⟩
theorem VRs.append {l l' : List AV} {r r' : List Value} (h : VRs P f l r) (h' : VRs P f l' r') : VRs P f (l ++ l') (r ++ r') := by
  refine VRs.of_get (by simp [h.length, h'.length]) (fun i x hx => ?_)
  rw [List.getElem?_append] at hx
  split at hx
  · rename_i hi
    obtain ⟨v, h1, h2⟩ := h.get hx
    exact ⟨v, by rw [List.getElem?_append_left (by rw [h.length]; exact hi)]; exact h1, h2⟩
  · rename_i hi
    obtain ⟨v, h1, h2⟩ := h'.get hx
    exact ⟨v, by rw [List.getElem?_append_right (by rw [h.length]; omega), h.length]; exact h1, h2⟩
/-- The cells of a value. -/
theorem VR.cells {x : AV} {v : Value} (h : VR P f x v) : VRs P f x.cells v.cells.toList := by
  cases x with
  | agg cs =>
    simp only [VR] at h
    obtain ⟨a, rfl, h2⟩ := h
    exact h2
  | tup cs =>
    have h' := h
    simp only [VR] at h
    obtain ⟨a, rfl, h2⟩ := h
    simp only [AV.cells, Value.cells, VRs]
    exact ⟨_, _, rfl, h', rfl⟩
  | ptr a =>
    have h' := h
    rcases a with _ | ⟨b, o⟩
    · simp only [VR] at h; subst h; simp only [AV.cells, Value.cells, VRs]; exact ⟨_, _, rfl, h', rfl⟩
    · simp only [VR] at h; obtain ⟨_, _, _, _, rfl⟩ := h; simp only [AV.cells, Value.cells, VRs]; exact ⟨_, _, rfl, h', rfl⟩
  | slc a len cap et ck =>
    have h' := h
    rcases a with _ | ⟨b, o⟩
    · simp only [VR] at h; obtain ⟨_, _, rfl⟩ := h; simp only [AV.cells, Value.cells, VRs]; exact ⟨_, _, rfl, h', rfl⟩
    · simp only [VR] at h; obtain ⟨_, _, _, _, _, _, rfl, _⟩ := h; simp only [AV.cells, Value.cells, VRs]; exact ⟨_, _, rfl, h', rfl⟩
  | map a =>
    have h' := h
    rcases a with _ | r
    · simp only [VR] at h; subst h; simp only [AV.cells, Value.cells, VRs]; exact ⟨_, _, rfl, h', rfl⟩
    · simp only [VR] at h; obtain ⟨_, _, _, _, rfl⟩ := h; simp only [AV.cells, Value.cells, VRs]; exact ⟨_, _, rfl, h', rfl⟩
  | bool b => have h' := h; simp only [VR] at h; subst h; simp only [AV.cells, Value.cells, VRs]; exact ⟨_, _, rfl, h', rfl⟩
  | int k n => have h' := h; simp only [VR] at h; subst h; simp only [AV.cells, Value.cells, VRs]; exact ⟨_, _, rfl, h', rfl⟩
  | str s => have h' := h; simp only [VR] at h; obtain ⟨_, rfl, _⟩ := h; simp only [AV.cells, Value.cells, VRs]; exact ⟨_, _, rfl, h', rfl⟩
  | fn g a c => have h' := h; simp only [VR] at h; obtain ⟨_, _, rfl, _⟩ := h; simp only [AV.cells, Value.cells, VRs]; exact ⟨_, _, rfl, h', rfl⟩
  | yld l => have h' := h; simp only [VR] at h; obtain ⟨_, _, _, _, rfl⟩ := h; simp only [AV.cells, Value.cells, VRs]; exact ⟨_, _, rfl, h', rfl⟩
  | nilFn => have h' := h; simp only [VR] at h; subst h; simp only [AV.cells, Value.cells, VRs]; exact ⟨_, _, rfl, h', rfl⟩
theorem VR.oneCell {x : AV} {v : Value} (h : VR P f x v) (hx : x.scalar = true) : v.oneCell' = true := by
  cases x with
  | agg cs => simp [AV.scalar] at hx
  | tup cs => simp [AV.scalar] at hx
  | ptr a =>
    rcases a with _ | ⟨b, o⟩
    · simp only [VR] at h; subst h; rfl
    · simp only [VR] at h; obtain ⟨_, _, _, _, rfl⟩ := h; rfl
  | slc a len cap et ck =>
    rcases a with _ | ⟨b, o⟩
    · simp only [VR] at h; obtain ⟨_, _, rfl⟩ := h; rfl
    · simp only [VR] at h; obtain ⟨_, _, _, _, _, _, rfl, _⟩ := h; rfl
  | map a =>
    rcases a with _ | r
    · simp only [VR] at h; subst h; rfl
    · simp only [VR] at h; obtain ⟨_, _, _, _, rfl⟩ := h; rfl
  | bool b => simp only [VR] at h; subst h; rfl
  | int k n => simp only [VR] at h; subst h; rfl
  | str s => simp only [VR] at h; obtain ⟨_, rfl, _⟩ := h; rfl
  | fn g a c => simp only [VR] at h; obtain ⟨_, _, rfl, _⟩ := h; rfl
  | yld l => simp only [VR] at h; obtain ⟨_, _, _, _, rfl⟩ := h; rfl
  | nilFn => simp only [VR] at h; subst h; rfl
theorem VRs.oneCell {l : List AV} {r : List Value} (h : VRs P f l r) (hl : l.all AV.scalar = true) : ∀ v ∈ r, v.oneCell' = true := by
  intro v hv
  obtain ⟨i, hi⟩ := List.getElem?_of_mem hv
  have hlt : i < l.length := by rw [← h.length]; exact (List.getElem?_eq_some_iff.1 hi).1
  obtain ⟨u, h1, h2⟩ := h.get (List.getElem?_eq_getElem hlt)
  rw [hi] at h1; cases h1
  exact h2.oneCell (by rw [List.all_eq_true] at hl; exact hl _ (List.getElem_mem hlt))
end lists

end Go.AM
