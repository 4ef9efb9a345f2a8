/- More steps of the model: loops over functions, returns. -/
import Derived.Test.YtbapopkhebnbpaaAm18
namespace Go.AM
open Go

variable {P : Program} {f f' : FM} {tm tm' : T AV} {σ σ' : AS} {w w' w1 : World} {a : Act} {v : AV} {B : Base} {k : List Item} {cs : List Frame} {c : Frame}

theorem run_getLoop {l : Nat} {r : Loop} (h : w.heap[l]? = some (.loop r)) : (Instr.getLoop l).run P w = .ok r w := by
  simp [Instr.getLoop, getObj, Sem.run, h]
theorem run_setO {r : Nat} {ob0 : Obj} (h : w.heap[r]? = some ob0) (hn : ∀ c e fr, ob0 ≠ .cells c e fr) (ob : Obj) : (setObj r ob).run P w = .ok () (putO w r ob) := by
  cases ob0 <;> first | (exact absurd rfl (hn _ _ _)) | simp [setObj, Sem.run, h, putO]
theorem run_setL {r : Nat} {l : Loop} (h : w.heap[r]? = some (.loop l)) (ob : Obj) : (setObj r ob).run P w = .ok () (putO w r ob) := run_setO h (fun _ _ _ e => by cases e) ob
theorem run_setD {r : Nat} {d} (h : w.heap[r]? = some (.deferred d)) (ob : Obj) : (setObj r ob).run P w = .ok () (putO w r ob) := run_setO h (fun _ _ _ e => by cases e) ob
theorem putO_same' {r : Nat} {ob : Obj} (h : r < w.heap.size) : (putO w r ob).heap[r]? = some ob := by simp [putO, h]
theorem putO_size' {r : Nat} {ob : Obj} : (putO w r ob).heap.size = w.heap.size := by simp [putO]

theorem st_range {x : Operand} {params : Array Tmp} {as body : Code} {l : Nat} {mk : List Deferred} {nx : Next} {f0 : Frame} (h1 : (Instr.enterLoop B.fn a.tmps params as body B.round).run P w = .ok (l, mk) w1)
    (h2 : (do let d ← Deferred.ofValue (a.eval x) #[.func (.yield l) #[] #[]]; invoke d.target d.args : Sem Next).run P w1 = .ok nx w1) (hs : startOf P nx = some f0) :
    step P (lone (B.fr a (.code (.rangeFunc x params as body) :: k)) cs w) = .next (lone f0 (B.fr ⟨a.tmps, mk ++ a.defers⟩ (.inRangeFunc l :: k) :: cs) w1) := by
  refine step_lone_go ?_
  have he := Base.eval_fr (B := B) (a := ⟨a.tmps, mk ++ a.defers⟩) (.inRangeFunc l :: k)
  simp only [Base.fr] at he ⊢
  simp only [stepG, stepG.exec, Sem.runT_eq, h1, stepG.apply, resolve, he]
  have ha : (Act.eval ⟨a.tmps, mk ++ a.defers⟩ : Operand → Value) = a.eval := funext fun y => by cases y <;> rfl
  simp only [ha]
  have e1 : Array.map a.eval #[.const (.func (.yield l) #[] #[])] = #[.func (.yield l) #[] #[]] := by simp [Act.eval]
  rw [e1]
  simp only [h2]
  cases nx <;> simp [startOf] at hs
  · subst hs; simp
  · subst hs; simp

theorem st_endRange {l : Nat} {r : Loop} (h : w.heap[l]? = some (.loop r)) (hb : r.state ≠ .busy) :
    step P (lone (B.fr a (.endRangeFunc l :: k)) cs w) = .next (lone (B.fr a ((r.pending.map Item.code).toList ++ k)) cs (putO w l (.loop { r with state := .exhausted }))) := by
  refine step_lone_go ?_
  have hr : (Instr.endLoop l).run P w = .ok r.pending (putO w l (.loop { r with state := .exhausted })) := by
    simp [Instr.endLoop, run_getLoop h, hb, run_setL h, Result.andThen]
  simp only [Base.fr, stepG, stepG.exec, Sem.runT_eq, hr]
  simp

theorem st_beginRound {l : Nat} {r : Loop} (hB : B.round = some l) (h : w.heap[l]? = some (.loop r)) (hs : r.state = .ready) :
    step P (lone (B.fr a (.beginRound :: k)) cs w) = .next (lone (B.fr a k) cs (putO w l (.loop { r with state := .busy }))) := by
  refine step_lone_go ?_
  have hr : (Instr.beginRound l).run P w = .ok () (putO w l (.loop { r with state := .busy })) := by
    simp [Instr.beginRound, run_getLoop h, hs, run_setL h, Result.andThen]
  simp only [Base.fr, stepG, stepG.exec, hB, Option.elim_some, stepG.apply, Sem.runT_eq]
  simp [hr, Frame.finish, Result.andThen]

/-- The end of a round. -/
def Leaving (k : List Item) : Option Code → Prop
  | none => k = []
  | some .ret => ∃ k', k = .code .ret :: k'
  | some (.exit id) => ∃ k', k = .code (.exit id) :: k' ∧ exitTo id k' = none
  | _ => False
theorem st_endRound {l : Nat} {r : Loop} {j : Option Code} (hB : B.round = some l) (h : w.heap[l]? = some (.loop r)) (hk : Leaving k j) :
    step P (lone (B.fr a k) (c :: cs) w) = .next (lone (c.finish (.bool j.isNone)) cs (putO w l (.loop { r with state := if j.isNone then .ready else .done, pending := j }))) := by
  refine step_lone_go ?_
  have hr : (Instr.endRound l j).run P w = .ok (.bool j.isNone) (putO w l (.loop { r with state := if j.isNone then .ready else .done, pending := j })) := by
    simp [Instr.endRound, run_getLoop h, run_setL h, Result.andThen]
  match j, hk with
  | none, hk =>
    have hk : k = [] := hk
    subst hk
    simp only [Base.fr, stepG, stepG.exec, hB, Sem.runT_eq, hr, doReturn]
    simp
  | some .ret, ⟨k', hk⟩ =>
    subst hk
    simp only [Base.fr, stepG, stepG.exec, hB, Sem.runT_eq, hr, doReturn]
    simp
  | some (.exit id), ⟨k', hk, hx⟩ =>
    subst hk
    simp only [Base.fr, stepG, stepG.exec, hB, hx, Option.elim_none, Sem.runT_eq, hr, doReturn]
    simp

/-- The end of a function: its frame begins to return. -/
def Base.out (b : Base) (a : Act) (todo : List Item) : Frame :=
  { fn := b.fn, tmps := a.tmps, todo, defers := a.defers, mode := .returning, kind := .normal, roundOf := b.round }
theorem st_leave (hB : B.round = none) (hk : Leaving k none ∨ Leaving k (some .ret)) : step P (lone (B.fr a k) cs w) = .next (lone (B.out a k) cs w) := by
  refine step_lone_go ?_
  rcases hk with hk | ⟨k', hk⟩
  · have hk : k = [] := hk
    subst hk
    simp [Base.fr, Base.out, stepG, stepG.exec, hB]
  · subst hk
    simp [Base.fr, Base.out, stepG, stepG.exec, hB]
theorem st_mark {r : Nat} {ds : List Deferred} (h : w.heap[r]? = some (.deferred (some []))) :
    step P (lone (B.out ⟨a.tmps, mark r :: ds⟩ k) cs w) = .next (lone (B.out ⟨a.tmps, ds⟩ k) cs (putO w r (.deferred none))) := by
  refine step_lone_go ?_
  have hr : (Instr.takeDeferred r).run P w = .ok [] (putO w r (.deferred none)) := by
    simp [Instr.takeDeferred, getObj, Sem.run, h]
    simp [run_setD h]
  simp only [Base.out, stepG, unwind, mark, Sem.runT_eq, hr]
  simp

end Go.AM
