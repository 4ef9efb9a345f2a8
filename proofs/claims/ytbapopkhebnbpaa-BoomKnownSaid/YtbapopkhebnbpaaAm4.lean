/- Memory: when the small machine's memory stands for the model's, and what a step of both keeps. -/
import Derived.Test.YtbapopkhebnbpaaAm3
namespace Go.AM
open Go

def AObj.rw : AObj → Bool
  | .cells _ ro => !ro
  | _ => true

def TR (P : Program) (f : FM) (tm : T AV) (a : Array Value) : Prop :=
  (∀ (i : Nat) (v : AV), tm.get i = some v → ∃ rv, a[i]? = some rv ∧ VR P f v rv) ∧ ∀ (i : Nat), tm.get i = none → a.getD i undef = undef

def PendR : AExit → Option Code → Prop
  | .normal, p => p = none
  | .exit id, p => p = some (.exit id)
  | .ret, p => p = some .ret

structure LoopR (P : Program) (f : FM) (l : ALoop) (r : Loop) : Prop where
  state : r.state = if l.busy then .busy else if l.done then .done else .ready
  pend : PendR l.pending r.pending
  code : ∃ n, okC P n l.assign r.assign = true ∧ okC P n l.body r.body = true ∧ l.params.all (Nat.blt · n) = true ∧ n ≤ r.tmps.size ∧ noRange l.assign = true
  params : l.params = r.params.toList
  tmps : TR P f l.tmps r.tmps

def EsR (P : Program) (f : FM) (es : List (AV × AV × Nat)) (rs : List MapEntry) : Prop :=
  rs.length = es.length ∧ ∀ (i : Nat) k v s, es[i]? = some (k, v, s) → ∃ e, rs[i]? = some e ∧ VR P f k e.key ∧ VR P f v e.val ∧ e.born = s

def CellsR (P : Program) (f : FM) (c : List AV) (rc : Array Value) (off : Nat) : Prop :=
  ∀ (i : Nat) (v : AV), c[i]? = some v → v.scalar = true ∧ ∃ rv, rc[off + i]? = some rv ∧ VR P f v rv

def ObjR (P : Program) (f : FM) (w : World) (b : Nat) : AObj → Prop
  | .cells c ro => ∃ rb off rs rc et fr, f b = some (rb, off, rs) ∧ w.heap[rb]? = some (.cells rc et fr) ∧ rc.size = rs ∧ off + c.length ≤ rs ∧ CellsR P f c rc off ∧ (ro = false → fr.1 = fr.2 ∨ rs ≤ fr.1)
  | .map es cl => ∃ rb off rs res, f b = some (rb, off, rs) ∧ w.heap[rb]? = some (.map res cl) ∧ EsR P f es res.toList
  | .loop l => ∃ rb off rs r, f b = some (rb, off, rs) ∧ w.heap[rb]? = some (.loop r) ∧ LoopR P f l r

structure Rel (P : Program) (f : FM) (σ : AS) (w : World) : Prop where
  obj : ∀ b o, σ.heap.get b = some o → ObjR P f w b o
  lt : ∀ b o, σ.heap.get b = some o → b < σ.next
  inj : ∀ b b' o o' t t', σ.heap.get b = some o → σ.heap.get b' = some o' → b ≠ b' → o.rw = true → f b = some t → f b' = some t' → t.1 ≠ t'.1

variable {P : Program} {f f' : FM} {σ σ' : AS} {w w' : World}

theorem TR.mono (hs : Sub f f') {tm : T AV} {a : Array Value} (h : TR P f tm a) : TR P f' tm a :=
  ⟨fun i v hv => let ⟨rv, h1, h2⟩ := h.1 i v hv; ⟨rv, h1, h2.mono hs⟩, h.2⟩
theorem LoopR.mono (hs : Sub f f') {l : ALoop} {r : Loop} (h : LoopR P f l r) : LoopR P f' l r :=
  { h with tmps := h.tmps.mono hs }
theorem EsR.mono (hs : Sub f f') {es : List (AV × AV × Nat)} {rs : List MapEntry} (h : EsR P f es rs) : EsR P f' es rs :=
  ⟨h.1, fun i k v s he => let ⟨e, h1, h2, h3, h4⟩ := h.2 i k v s he; ⟨e, h1, h2.mono hs, h3.mono hs, h4⟩⟩
theorem CellsR.mono (hs : Sub f f') {c : List AV} {rc : Array Value} {off : Nat} (h : CellsR P f c rc off) : CellsR P f' c rc off :=
  fun i v hv => let ⟨h1, rv, h2, h3⟩ := h i v hv; ⟨h1, rv, h2, h3.mono hs⟩
theorem ObjR.mono (hs : Sub f f') {b : Nat} : ∀ {o : AObj}, ObjR P f w b o → ObjR P f' w b o
  | .cells _ _, ⟨rb, off, rs, rc, et, fr, h1, h2, h3, h4, h5, h6⟩ => ⟨rb, off, rs, rc, et, fr, hs _ _ h1, h2, h3, h4, h5.mono hs, h6⟩
  | .map _ _, ⟨rb, off, rs, res, h1, h2, h3⟩ => ⟨rb, off, rs, res, hs _ _ h1, h2, h3.mono hs⟩
  | .loop _, ⟨rb, off, rs, r, h1, h2, h3⟩ => ⟨rb, off, rs, r, hs _ _ h1, h2, h3.mono hs⟩
theorem ObjR.home {b : Nat} : ∀ {o : AObj}, ObjR P f w b o → ∃ t, f b = some t ∧ t.1 < w.heap.size
  | .cells _ _, ⟨rb, off, rs, rc, et, fr, h1, h2, _⟩ => ⟨_, h1, (Array.getElem?_eq_some_iff.1 h2).1⟩
  | .map _ _, ⟨rb, off, rs, res, h1, h2, _⟩ => ⟨_, h1, (Array.getElem?_eq_some_iff.1 h2).1⟩
  | .loop _, ⟨rb, off, rs, r, h1, h2, _⟩ => ⟨_, h1, (Array.getElem?_eq_some_iff.1 h2).1⟩
theorem ObjR.congr {b : Nat} {t : Nat × Nat × Nat} (ht : f b = some t) (hw : w'.heap[t.1]? = w.heap[t.1]?) : ∀ {o : AObj}, ObjR P f w b o → ObjR P f w' b o
  | .cells _ _, ⟨rb, off, rs, rc, et, fr, h1, h2, h3⟩ => ⟨rb, off, rs, rc, et, fr, h1, by rw [h1] at ht; cases ht; rw [hw]; exact h2, h3⟩
  | .map _ _, ⟨rb, off, rs, res, h1, h2, h3⟩ => ⟨rb, off, rs, res, h1, by rw [h1] at ht; cases ht; rw [hw]; exact h2, h3⟩
  | .loop _, ⟨rb, off, rs, r, h1, h2, h3⟩ => ⟨rb, off, rs, r, h1, by rw [h1] at ht; cases ht; rw [hw]; exact h2, h3⟩

/-- What a step keeps. -/
structure StR (P : Program) (f : FM) (σ : AS) (w : World) (f' : FM) (σ' : AS) (w' : World) : Prop where
  rel : Rel P f' σ' w'
  sub : Sub f f'
  off : ∀ b, ¬ (σ.next ≤ b ∧ b < σ'.next) → f' b = f b
  nx : σ.next ≤ σ'.next
  fl : σ'.floor = σ.floor
  sz : w.heap.size ≤ w'.heap.size
  kept : ∀ rb, rb < w.heap.size → (∀ b o t, σ.heap.get b = some o → o.rw = true → σ.floor ≤ b → f b = some t → t.1 ≠ rb) → w'.heap[rb]? = w.heap[rb]?
  fresh : ∀ b o t, σ'.heap.get b = some o → f' b = some t → w.heap.size ≤ t.1 ∨ ∃ b0 o0 t0, σ.heap.get b0 = some o0 ∧ f b0 = some t0 ∧ t0.1 = t.1 ∧ (o.rw = true → o0.rw = true ∧ (σ.floor ≤ b → σ.floor ≤ b0))
  out : w'.output = w.output
  os : w'.os = w.os

theorem StR.refl (h : Rel P f σ w) : StR P f σ w f σ w :=
  ⟨h, Sub.refl f, fun _ _ => rfl, Nat.le_refl _, rfl, Nat.le_refl _, fun _ _ _ => rfl, fun b o t h1 h2 => .inr ⟨b, o, t, h1, h2, rfl, fun h => ⟨h, id⟩⟩, rfl, rfl⟩
theorem StR.trans {f1 f2 : FM} {σ1 σ2 : AS} {w1 w2 : World} (h : StR P f σ w f1 σ1 w1) (k : StR P f1 σ1 w1 f2 σ2 w2) : StR P f σ w f2 σ2 w2 where
  rel := k.rel
  sub := h.sub.trans k.sub
  off b hb := by
    rw [k.off b (fun hh => hb ⟨Nat.le_trans h.nx hh.1, hh.2⟩), h.off b (fun hh => hb ⟨hh.1, Nat.lt_of_lt_of_le hh.2 k.nx⟩)]
  nx := Nat.le_trans h.nx k.nx
  fl := k.fl.trans h.fl
  sz := Nat.le_trans h.sz k.sz
  kept rb hr hno := by
    rw [k.kept rb (Nat.lt_of_lt_of_le hr h.sz) (fun b o t hg hrw hfl hf => ?_), h.kept rb hr hno]
    rcases h.fresh b o t hg hf with hlt | ⟨b0, o0, t0, g0, e0, e1, r⟩
    · omega
    · obtain ⟨r0, l0⟩ := r hrw
      rw [← e1]; exact hno b0 o0 t0 g0 r0 (l0 (by rw [← h.fl]; exact hfl)) e0
  fresh b o t hg hf := by
    rcases k.fresh b o t hg hf with hlt | ⟨b1, o1, t1, g1, e1, e2, r⟩
    · exact .inl (Nat.le_trans h.sz hlt)
    · rcases h.fresh b1 o1 t1 g1 e1 with hlt | ⟨b0, o0, t0, g0, e0, e3, r'⟩
      · exact .inl (by rw [← e2]; exact hlt)
      · refine .inr ⟨b0, o0, t0, g0, e0, e3.trans e2, fun hr => ?_⟩
        obtain ⟨r1, l1⟩ := r hr
        obtain ⟨r2, l2⟩ := r' r1
        exact ⟨r2, fun hl => l2 (by rw [← h.fl]; exact l1 (by rw [h.fl]; exact hl))⟩
  out := k.out.trans h.out
  os := k.os.trans h.os

/-- A world that has only grown and drawn: every object that was there lies as it lay. -/
theorem Rel.grown (h : Rel P f σ w) (hw : ∀ i, i < w.heap.size → w'.heap[i]? = w.heap[i]?) : Rel P f σ w' where
  obj b o hg := by
    obtain ⟨t, ht, hlt⟩ := (h.obj b o hg).home
    exact (h.obj b o hg).congr ht (hw _ hlt)
  lt := h.lt
  inj := h.inj

def upd (f : FM) (b : Nat) (t : Nat × Nat × Nat) : FM := fun x => if x = b then some t else f x
theorem upd_same (f : FM) (b : Nat) (t : Nat × Nat × Nat) : upd f b t b = some t := by simp [upd]
theorem upd_other (f : FM) {b x : Nat} (t : Nat × Nat × Nat) (h : x ≠ b) : upd f b t x = f x := by simp [upd, h]
theorem sub_upd {b : Nat} (t : Nat × Nat × Nat) (h : f b = none) : Sub f (upd f b t) := fun x u hx => by
  by_cases e : x = b
  · subst e; rw [h] at hx; cases hx
  · rw [upd_other f t e]; exact hx

/-- One object made, under a number that stands for none yet. -/
theorem Rel.made (h : Rel P f σ w) {b : Nat} {ao : AObj} {o : Obj} {t : Nat × Nat × Nat} {nx : Nat} (hb : f b = none) (hn : σ.heap.get b = none) (hlt : b < nx) (hnx : σ.next ≤ nx)
    (ht : t.1 = w.heap.size) (hw : ∀ i, i < w.heap.size → w'.heap[i]? = w.heap[i]?) (ho : ObjR P (upd f b t) w' b ao) :
    Rel P (upd f b t) { σ with heap := σ.heap.put b (some ao), next := nx } w' where
  obj x o' hg := by
    simp only [T.get_put] at hg
    split at hg
    · rename_i e; subst e; cases hg; exact ho
    · have hr := h.obj x o' hg
      obtain ⟨u, hu, hul⟩ := hr.home
      exact (hr.congr hu (hw _ hul)).mono (sub_upd t hb)
  lt x o' hg := by
    simp only [T.get_put] at hg
    split at hg
    · rename_i e; subst e; exact hlt
    · exact Nat.lt_of_lt_of_le (h.lt x o' hg) hnx
  inj x x' o1 o2 t1 t2 g1 g2 hne hrw e1 e2 := by
    simp only [T.get_put] at g1 g2
    split at g1
    · rename_i e; subst e
      rw [if_neg (Ne.symm hne)] at g2
      rw [upd_same] at e1; cases e1
      rw [upd_other f t (Ne.symm hne)] at e2
      obtain ⟨u, hu, hul⟩ := (h.obj x' o2 g2).home
      rw [hu] at e2; cases e2; omega
    · rename_i hx
      rw [upd_other f t hx] at e1
      split at g2
      · rename_i e; subst e
        rw [upd_same] at e2; cases e2
        obtain ⟨u, hu, hul⟩ := (h.obj x o1 g1).home
        rw [hu] at e1; cases e1; omega
      · rename_i hx'
        rw [upd_other f t hx'] at e2
        exact h.inj x x' o1 o2 t1 t2 g1 g2 hne hrw e1 e2

/-- An object of the step's own is turned. -/
theorem Rel.turned (h : Rel P f σ w) {b : Nat} {ao ao' : AObj} {t : Nat × Nat × Nat} (hg : σ.heap.get b = some ao) (hrw : ao.rw = true) (ht : f b = some t)
    (hw : ∀ i, i ≠ t.1 → w'.heap[i]? = w.heap[i]?) (ho : ObjR P f w' b ao') :
    Rel P f { σ with heap := σ.heap.put b (some ao') } w' where
  obj x o' hx := by
    simp only [T.get_put] at hx
    split at hx
    · rename_i e; subst e; cases hx; exact ho
    · rename_i hne
      have hr := h.obj x o' hx
      obtain ⟨u, hu, _⟩ := hr.home
      exact hr.congr hu (hw _ (Ne.symm (h.inj b x ao o' t u hg hx (Ne.symm hne) hrw ht hu)))
  lt x o' hx := by
    simp only [T.get_put] at hx
    split at hx
    · rename_i e; subst e; exact h.lt _ _ hg
    · exact h.lt x o' hx
  inj x x' o1 o2 t1 t2 g1 g2 hne hr e1 e2 := by
    simp only [T.get_put] at g1 g2
    by_cases hx : x = b
    · subst hx
      rw [if_neg (Ne.symm hne)] at g2
      exact h.inj x x' ao o2 t1 t2 hg g2 hne hrw e1 e2
    · rw [if_neg hx] at g1
      by_cases hx' : x' = b
      · subst hx'
        exact h.inj x x' o1 ao t1 t2 g1 hg hne hr e1 e2
      · rw [if_neg hx'] at g2
        exact h.inj x x' o1 o2 t1 t2 g1 g2 hne hr e1 e2

theorem StR.turned (h : Rel P f σ w) {b : Nat} {ao ao' : AObj} {t : Nat × Nat × Nat} (hg : σ.heap.get b = some ao) (hrw : ao.rw = true) (hfl : σ.floor ≤ b) (ht : f b = some t)
    (hw : ∀ i, i ≠ t.1 → w'.heap[i]? = w.heap[i]?) (hsz : w'.heap.size = w.heap.size) (hout : w'.output = w.output) (hos : w'.os = w.os) (ho : ObjR P f w' b ao') :
    StR P f σ w f { σ with heap := σ.heap.put b (some ao') } w' where
  rel := h.turned hg hrw ht hw ho
  sub := Sub.refl f
  off _ _ := rfl
  nx := Nat.le_refl _
  fl := rfl
  sz := by rw [hsz]; exact Nat.le_refl _
  kept rb _ hno := hw rb (Ne.symm (hno b ao t hg hrw hfl ht))
  fresh x o' u hx hu := by
    simp only [T.get_put] at hx
    split at hx
    · rename_i e; subst e; exact .inr ⟨x, ao, u, hg, hu, rfl, fun _ => ⟨hrw, id⟩⟩
    · exact .inr ⟨x, o', u, hx, hu, rfl, fun h => ⟨h, id⟩⟩
  out := hout
  os := hos

theorem StR.made (h : Rel P f σ w) {ao : AObj} {t : Nat × Nat × Nat} (hb : f σ.next = none)
    (ht : t.1 = w.heap.size) (hw : ∀ i, i < w.heap.size → w'.heap[i]? = w.heap[i]?) (hsz : w.heap.size ≤ w'.heap.size) (hout : w'.output = w.output) (hos : w'.os = w.os) (ho : ObjR P (upd f σ.next t) w' σ.next ao) :
    StR P f σ w (upd f σ.next t) (σ.alloc ao) w' where
  rel := h.made (nx := σ.next + 1) (o := default) hb (by cases e : σ.heap.get σ.next with | none => rfl | some o => exact absurd (h.lt _ _ e) (Nat.lt_irrefl _)) (Nat.lt_succ_self _) (Nat.le_succ _) ht hw ho
  sub := sub_upd t hb
  off b hb' := upd_other f t (fun e => hb' ⟨by rw [e]; exact Nat.le_refl _, by rw [e]; exact Nat.lt_succ_self _⟩)
  nx := Nat.le_succ _
  fl := rfl
  sz := hsz
  kept rb hr _ := hw rb hr
  fresh x o' u hx hu := by
    simp only [AS.alloc, T.get_put] at hx
    split at hx
    · rename_i e; subst e; rw [upd_same] at hu; cases hu; exact .inl (by omega)
    · rename_i hne; rw [upd_other f t hne] at hu; exact .inr ⟨x, o', u, hx, hu, rfl, fun h => ⟨h, id⟩⟩
  out := hout
  os := hos

/-- Only draws. -/
theorem StR.same (h : Rel P f σ w) (hw : w'.heap = w.heap) (hout : w'.output = w.output) (hos : w'.os = w.os) : StR P f σ w f σ w' where
  rel := h.grown (fun i _ => by rw [hw])
  sub := Sub.refl f
  off _ _ := rfl
  nx := Nat.le_refl _
  fl := rfl
  sz := by rw [hw]; exact Nat.le_refl _
  kept _ _ _ := by rw [hw]
  fresh b o t h1 h2 := .inr ⟨b, o, t, h1, h2, rfl, fun h => ⟨h, id⟩⟩
  out := hout
  os := hos

end Go.AM
