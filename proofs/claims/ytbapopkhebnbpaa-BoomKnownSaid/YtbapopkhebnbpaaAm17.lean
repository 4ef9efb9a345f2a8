/- Calls, and code: steps, frames, what is told of a job. -/
import Derived.Test.YtbapopkhebnbpaaAm16
namespace Go.AM
open Go

variable {P : Program} {f f' : FM} {tm : T AV} {σ σ' : AS} {w w' : World} {a : Act} {v : AV} {B : Base} {k : List Item} {cs : List Frame}

def Dom (f : FM) (σ : AS) : Prop := ∀ b, σ.next ≤ b → f b = none
theorem StR.dom (h : StR P f σ w f' σ' w') (hd : Dom f σ) : Dom f' σ' := fun b hb => by
  rw [h.off b (fun hh => by omega)]
  exact hd b (Nat.le_trans h.nx hb)

theorem image_ne (h : Rel P f σ w) {b : Nat} {o : AObj} {t : Nat × Nat × Nat} (hg : σ.heap.get b = some o) (ht : f b = some t) {r : Nat} {d} (hr : w.heap[r]? = some (.deferred d)) : t.1 ≠ r := by
  intro e
  have ho := h.obj b o hg
  cases o with
  | cells c ro => obtain ⟨rb, off, rs, rc, et, fr, h1, h2, _⟩ := ho; rw [ht] at h1; cases h1; simp only at e; rw [e, hr] at h2; cases h2
  | map es cl => obtain ⟨rb, off, rs, res, h1, h2, _⟩ := ho; rw [ht] at h1; cases h1; simp only at e; rw [e, hr] at h2; cases h2
  | loop l => obtain ⟨rb, off, rs, rr, h1, h2, _⟩ := ho; rw [ht] at h1; cases h1; simp only at e; rw [e, hr] at h2; cases h2

def mark (r : Nat) : Deferred := { target := .collected r, args := #[] }
/-- A frame's marks for the loops over functions that it has begun. -/
def DefOK (N : Nat) (w : World) (ds : List Deferred) : Prop := ∃ rs : List Nat, ds = rs.map mark ∧ rs.Nodup ∧ ∀ r ∈ rs, N ≤ r ∧ w.heap[r]? = some (.deferred (some []))
theorem DefOK.nil (N : Nat) (w : World) : DefOK N w [] := ⟨[], rfl, List.nodup_nil, fun r h => by cases h⟩
theorem DefOK.step {N : Nat} {ds : List Deferred} (h : DefOK N w ds) (hR : Rel P f σ w) (hs : StR P f σ w f' σ' w') : DefOK N w' ds := by
  obtain ⟨rs, h1, h2, h3⟩ := h
  refine ⟨rs, h1, h2, fun r hr => ?_⟩
  obtain ⟨h4, h5⟩ := h3 r hr
  refine ⟨h4, ?_⟩
  rw [hs.kept r (Array.getElem?_eq_some_iff.1 h5).1 (fun b o t g1 _ _ g2 => image_ne hR g1 g2 h5)]
  exact h5

/-- In a round, the loop's record is there. -/
def RoundOK (f : FM) (σ : AS) (B : Base) : Prop := ∀ l0, B.round = some l0 → ∃ lb l t, σ.heap.get lb = some (.loop l) ∧ l.busy = true ∧ lb < σ.next ∧ f lb = some t ∧ t.1 = l0
theorem RoundOK.step (h : RoundOK f σ B) (hs : Sub f f') (ha : Abs σ σ') : RoundOK f' σ' B := fun l0 h0 => by
  obtain ⟨lb, l, t, h1, h2, h3, h4, h5⟩ := h l0 h0
  exact ⟨lb, l, t, ha.loops _ _ h1 h3 h2, h2, Nat.lt_of_lt_of_le h3 ha.nx, hs _ _ h4, h5⟩

def Lands (B : Base) (k : List Item) (cs : List Frame) (x : AExit) (a : Act) (w : World) (m : Machine) : Prop :=
  match x with
  | .normal => m = lone (B.fr a k) cs w
  | .exit id => ∃ k', m = lone (B.fr a (.code (.exit id) :: k')) cs w ∧ exitTo id k' = exitTo id k
  | .ret => ∃ k', m = lone (B.fr a (.code .ret :: k')) cs w

/-- What a piece of code leaves. -/
structure Leaves (P : Program) (f : FM) (σ : AS) (w : World) (N : Nat) (B : Base) (sz : Nat) (f' : FM) (σ' : AS) (w' : World) (tm' : T AV) (a' : Act) : Prop where
  st : StR P f σ w f' σ' w'
  tr : TR P f' tm' a'.tmps
  size : a'.tmps.size = sz
  defs : DefOK N w' a'.defers
  rd : B.round.isSome = true → a'.defers = []

def After (P : Program) (f : FM) (σ : AS) (w : World) (N : Nat) (B : Base) (sz : Nat) (k : List Item) (cs : List Frame) (x : AExit) (tm' : T AV) (σ' : AS) (m : Machine) : Prop :=
  ∃ a' w' f', Lands B k cs x a' w' m ∧ Leaves P f σ w N B sz f' σ' w' tm' a'

/-- What is asked of a frame ahead of a piece of code. -/
structure Pre (P : Program) (f : FM) (σ : AS) (w : World) (N : Nat) (B : Base) (sz : Nat) (tm : T AV) (a : Act) : Prop where
  rel : Rel P f σ w
  dom : Dom f σ
  fl : σ.floor ≤ σ.next
  tr : TR P f tm a.tmps
  size : a.tmps.size = sz
  defs : DefOK N w a.defers
  low : N ≤ w.heap.size
  rd : B.round.isSome = true → a.defers = []

theorem Leaves.pre {N sz : Nat} {tm' : T AV} {a' : Act} (h : Leaves P f σ w N B sz f' σ' w' tm' a') (hp : Pre P f σ w N B sz tm a) : Pre P f' σ' w' N B sz tm' a' :=
  ⟨h.st.rel, h.st.dom hp.dom, by rw [h.st.fl]; exact Nat.le_trans hp.fl h.st.nx, h.tr, h.size, h.defs, Nat.le_trans hp.low h.st.sz, h.rd⟩
theorem Leaves.trans {N sz : Nat} {tm1 tm2 : T AV} {a1 a2 : Act} {f1 f2 : FM} {σ1 σ2 : AS} {w1 w2 : World} (h : Leaves P f σ w N B sz f1 σ1 w1 tm1 a1) (k : Leaves P f1 σ1 w1 N B sz f2 σ2 w2 tm2 a2) : Leaves P f σ w N B sz f2 σ2 w2 tm2 a2 :=
  ⟨h.st.trans k.st, k.tr, k.size, k.defs, k.rd⟩
theorem Pre.leaves {N sz : Nat} (h : Pre P f σ w N B sz tm a) : Leaves P f σ w N B sz f σ w tm a := ⟨StR.refl h.rel, h.tr, h.size, h.defs, h.rd⟩

/-- A piece of code at its start, or a loop at its next go. -/
def Starts (c : Code) (it : Item) : Prop := it = .code c ∨ ∃ b, c = .loop b ∧ it = .inLoop b

structure Sound (P : Program) (G : Fns) : Prop where
  exec : ∀ c tm σ x tm' σ', G.exec c tm σ = some (x, tm', σ') → ∀ n code, okC P n c code = true → ∀ f w N (B : Base) sz a it k cs, Starts code it → Pre P f σ w N B sz tm a → n ≤ sz → (noRange c = true ∨ RoundOK f σ B) →
    To P (lone (B.fr a (it :: k)) cs w) (After P f σ w N B sz k cs x tm' σ')
  call : ∀ fv args σ v σ', G.call fv args σ = some (v, σ') → ∀ f w rf (rargs : Array Value), VR P f fv rf → VRs P f args rargs.toList → Rel P f σ w → Dom f σ → σ.floor ≤ σ.next →
    ∃ nx f0, (do let d ← Deferred.ofValue rf rargs; invoke d.target d.args : Sem Next).run P w = .ok nx w ∧ startOf P nx = some f0 ∧
      ∀ c cs, To P (lone f0 (c :: cs) w) (fun m => ∃ rv w' f', m = lone (c.finish rv) cs w' ∧ VR P f' v rv ∧ StR P f σ w f' σ' w')

/-! Slots. -/
theorem TR.put_some {tmps : Array Value} {d : Nat} {rv : Value} (h : TR P f tm tmps) (hd : d < tmps.size) (hv : VR P f v rv) : TR P f (tm.put d (some v)) (tmps.setIfInBounds d rv) := by
  refine ⟨fun i u hu => ?_, fun i hi => ?_⟩
  · rw [T.get_put] at hu
    split at hu
    · rename_i e; subst e; cases hu; exact ⟨rv, by simp [hd], hv⟩
    · rename_i e
      obtain ⟨r, h1, h2⟩ := h.1 i u hu
      exact ⟨r, by rw [Array.getElem?_setIfInBounds_ne (Ne.symm e)]; exact h1, h2⟩
  · rw [T.get_put] at hi
    split at hi
    · cases hi
    · rename_i e
      have := h.2 i hi
      rw [Array.getD_eq_getD_getElem?] at this ⊢
      rw [Array.getElem?_setIfInBounds_ne (Ne.symm e)]
      exact this
theorem TR.put_none {tmps : Array Value} {d : Nat} (h : TR P f tm tmps) (hd : d < tmps.size) : TR P f (tm.put d none) (tmps.setIfInBounds d undef) := by
  refine ⟨fun i u hu => ?_, fun i hi => ?_⟩
  · rw [T.get_put] at hu
    split at hu
    · cases hu
    · rename_i e
      obtain ⟨r, h1, h2⟩ := h.1 i u hu
      exact ⟨r, by rw [Array.getElem?_setIfInBounds_ne (Ne.symm e)]; exact h1, h2⟩
  · rw [T.get_put] at hi
    rw [Array.getD_eq_getD_getElem?]
    split at hi
    · rename_i e; subst e; simp [hd]
    · rename_i e
      have := h.2 i hi
      rw [Array.getD_eq_getD_getElem?] at this
      rw [Array.getElem?_setIfInBounds_ne (Ne.symm e)]
      exact this
theorem put_defers (a : Act) (d : Option Tmp) (x : Value) : (a.put d x).defers = a.defers := by cases d <;> rfl
theorem put_size (a : Act) (d : Option Tmp) (x : Value) : (a.put d x).tmps.size = a.tmps.size := by cases d <;> simp [Act.put]
theorem TR.putD_some {d : Option Nat} {rv : Value} (h : TR P f tm a.tmps) (hd : ∀ x, d = some x → x < a.tmps.size) (hv : VR P f v rv) : TR P f (putD tm d (some v)) (a.put d rv).tmps := by
  cases d with
  | none => exact h
  | some d => exact h.put_some (hd d rfl) hv
theorem TR.putD_none {d : Option Nat} (h : TR P f tm a.tmps) (hd : ∀ x, d = some x → x < a.tmps.size) : TR P f (putD tm d none) (a.put d undef).tmps := by
  cases d with
  | none => exact h
  | some d => exact h.put_none (hd d rfl)

theorem vr_bool {b : Bool} {x : AV} (h : VR P f x (.bool b)) : x = .bool b := by
  cases x with
  | ptr a => rcases a with _ | ⟨_, _⟩ <;> simp [VR] at h
  | slc a => rcases a with _ | ⟨_, _⟩ <;> simp [VR] at h
  | map a => cases a <;> simp [VR] at h
  | bool c => simp [VR] at h; rw [h]
  | _ => simp [VR] at h

structure OperOK (P : Program) (n : Nat) (ops : Array Oper) (ao : AOper) (o : Oper) : Prop where
  dst : ao.dst = o.dst
  small : ∀ x, o.dst = some x → x < n
  guard : (ao.guard = none ∧ o.guard = none) ∨ ∃ s q j, ao.guard = some (s, q) ∧ o.guard = some (j, q) ∧ (ops[j]?).bind (·.dst) = some s
  op : okOp P ao.op o.op = true
theorem okOper_inv {n : Nat} {ops : Array Oper} {ao : AOper} {o : Oper} (h : okOper P n ops ao o = true) : OperOK P n ops ao o := by
  unfold okOper at h
  simp only [Bool.and_eq_true, decide_eq_true_eq] at h
  obtain ⟨⟨⟨h1, h2⟩, h3⟩, h4⟩ := h
  refine ⟨h1, fun x hx => by rw [hx] at h2; simpa [Nat.blt_eq] using h2, ?_, h4⟩
  split at h3
  · rename_i g1 g2; exact .inl ⟨g1, g2⟩
  · rename_i s q j u g1 g2
    simp only [Bool.and_eq_true, beq_iff_eq, decide_eq_true_eq] at h3
    obtain ⟨rfl, h3⟩ := h3
    exact .inr ⟨s, q, j, g1, g2, h3⟩
  · cases h3
theorem wanted_eq {n : Nat} {ops : Array Oper} {ao : AOper} {o : Oper} (h : OperOK P n ops ao o) (ht : TR P f tm a.tmps) : Region.wanted o (yielded ops a.tmps) = wanted ao.guard tm := by
  rcases h.guard with ⟨h1, h2⟩ | ⟨s, q, j, h1, h2, h3⟩
  · simp [Region.wanted, wanted, h1, h2]
  · simp only [Region.wanted, wanted, h1, h2, yielded, h3, Option.bind_some]
    cases hs : tm.get s with
    | none =>
      have := ht.2 s hs
      rw [Array.getD_eq_getD_getElem?] at this
      cases hv : a.tmps[s]? with
      | none => simp
      | some x => rw [hv] at this; simp at this; subst this; simp [undef]
    | some u =>
      obtain ⟨rv, h4, h5⟩ := ht.1 s u hs
      rw [h4]
      cases u with
      | bool b => simp only [VR] at h5; subst h5; simp
      | _ =>
        cases rv with
        | bool b => have := vr_bool h5; cases this
        | _ => simp

theorem not_defer {ao : AOp} {op : Op} (h : okOp P ao op = true) : ∀ c, op ≠ .defer c := by
  intro c e
  subst e
  cases ao <;> exact Bool.false_ne_true h

end Go.AM
