/- The model's steps, as this proof wants them. -/
import Derived.Test.YtbapopkhebnbpaaAm14
import Derived.Orders
namespace Go.AM
open Go

/-- A frame's function, and the round that it is, if it is one. -/
structure Base where
  fn : FuncId
  round : Option Nat

def Base.fr (b : Base) (a : Act) (todo : List Item) : Frame :=
  { fn := b.fn, tmps := a.tmps, todo, defers := a.defers, mode := .run, kind := .normal, roundOf := b.round }

/-- The run comes to a state like this, or ends for want of room. -/
def To (P : Program) (m : Machine) (post : Machine → Prop) : Prop := False ∨ ∃ m', Steps P m m' ∧ post m'

variable {P : Program} {B : Base} {a : Act} {k : List Item} {cs : List Frame} {w w' : World} {m m1 : Machine} {post post' : Machine → Prop}

theorem To.here (h : post m) : To P m post := .inr ⟨m, Steps.refl P m, h⟩
theorem To.steps (h : Steps P m m1) (h' : To P m1 post) : To P m post := by
  rcases h' with h' | ⟨m2, h1, h2⟩
  · exact h'.elim
  · exact .inr ⟨m2, h.trans h1, h2⟩
theorem To.step (h : Go.step P m = .next m1) (h' : To P m1 post) : To P m post := h'.steps (.one h)
theorem To.bind (h : To P m post) (h' : ∀ m', post m' → To P m' post') : To P m post' := by
  rcases h with h | ⟨m1, h1, h2⟩
  · exact h.elim
  · exact (h' m1 h2).steps h1
theorem To.mono (h : To P m post) (h' : ∀ m', post m' → post' m') : To P m post' := h.bind fun m' hm => To.here (h' m' hm)

theorem Base.eval_fr (todo : List Item) : (B.fr a todo).eval = a.eval := funext fun x => by cases x <;> rfl

section steps
theorem st_skip : step P (lone (B.fr a (.code .skip :: k)) cs w) = .next (lone (B.fr a k) cs w) := step_lone_go (by simp [stepG, stepG.exec, Base.fr])
theorem st_label {l : Nat} : step P (lone (B.fr a (.code (.label l) :: k)) cs w) = .next (lone (B.fr a k) cs w) := step_lone_go (by simp [stepG, stepG.exec, Base.fr])
theorem st_inBlock {id : Nat} : step P (lone (B.fr a (.inBlock id :: k)) cs w) = .next (lone (B.fr a k) cs w) := step_lone_go (by simp [stepG, stepG.exec, Base.fr])
theorem st_inScope {c : Code} : step P (lone (B.fr a (.inScope c :: k)) cs w) = .next (lone (B.fr a k) cs w) := step_lone_go (by simp [stepG, stepG.exec, Base.fr])
theorem st_seq {x y : Code} : step P (lone (B.fr a (.code (.seq x y) :: k)) cs w) = .next (lone (B.fr a (.code x :: .code y :: k)) cs w) := step_lone_go (by simp [stepG, stepG.exec, Base.fr])
theorem st_cond {c : Operand} {x y : Code} {t : Bool} (h : a.eval c = .bool t) : step P (lone (B.fr a (.code (.cond c x y) :: k)) cs w) = .next (lone (B.fr a (.code (if t then x else y) :: k)) cs w) :=
  step_lone_go (by
    have := congrFun (Base.eval_fr (B := B) (a := a) (.code (.cond c x y) :: k)) c
    simp only [Base.fr] at this
    simp [stepG, stepG.exec, Base.fr, this, h])
theorem st_block {id : Nat} {c : Code} : step P (lone (B.fr a (.code (.block id c) :: k)) cs w) = .next (lone (B.fr a (.code c :: .inBlock id :: k)) cs w) := step_lone_go (by simp [stepG, stepG.exec, Base.fr])
theorem st_loop {c : Code} : step P (lone (B.fr a (.code (.loop c) :: k)) cs w) = .next (lone (B.fr a (.code c :: .inLoop c :: k)) cs w) := step_lone_go (by simp [stepG, stepG.exec, Base.fr])
theorem st_inLoop {c : Code} : step P (lone (B.fr a (.inLoop c :: k)) cs w) = .next (lone (B.fr a (.code c :: .inLoop c :: k)) cs w) := step_lone_go (by simp [stepG, stepG.exec, Base.fr])
theorem st_scope {c : Code} : step P (lone (B.fr a (.code (.scope c) :: k)) cs w) = .next (lone (B.fr a (.code c :: .inScope c :: k)) cs w) := step_lone_go (by simp [stepG, stepG.exec, Base.fr])
theorem st_exit {id : Nat} {k' : List Item} (h : exitTo id k = some k') : step P (lone (B.fr a (.code (.exit id) :: k)) cs w) = .next (lone (B.fr a k') cs w) :=
  step_lone_go (by simp [stepG, stepG.exec, Base.fr, h])
theorem st_region {id : Nat} {ops : Array Oper} : step P (lone (B.fr a (.code (.region id ops false) :: k)) cs w) = .next (lone (B.fr a (.inRegion ops (List.range ops.size) :: k)) cs w) :=
  step_lone_go (by simp [stepG, stepG.exec, Base.fr])
theorem st_region_draw {id : Nat} {ops : Array Oper} : step P (lone (B.fr a (.code (.region id ops true) :: k)) cs w) =
    .next (lone (B.fr a (.inRegion ops (Region.schedule (P.follows .mixedOrders) ops (w.tape w.drawn (.order B.fn id))) :: k)) cs w.drew) :=
  step_lone_go (by simp [stepG, stepG.exec, Base.fr, choose, Sem.run, Question.forced, Question.cut])
theorem st_region_end {ops : Array Oper} : step P (lone (B.fr a (.inRegion ops [] :: k)) cs w) = .next (lone (B.fr a k) cs w) :=
  step_lone_go (by simp [stepG, stepG.exec, Base.fr])
theorem st_op_skip {ops : Array Oper} {i : Nat} {rest : List Nat} {o : Oper} (ho : ops[i]? = some o) (hw : Region.wanted o (yielded ops a.tmps) = false) :
    step P (lone (B.fr a (.inRegion ops (i :: rest) :: k)) cs w) = .next (lone (B.fr (a.put o.dst undef) (.inRegion ops rest :: k)) cs w) := by
  have hf : (B.fr a (.inRegion ops (i :: rest) :: k)).finish undef = B.fr (a.put o.dst undef) (.inRegion ops rest :: k) := by
    simp only [Frame.finish, Base.fr, ho, Option.bind_some]
    cases o.dst <;> simp [Act.put]
  rw [← hf]
  exact step_lone_go (by simp only [Base.fr]; simp [stepG, stepG.exec, ho, hw])
theorem fin_fr {ops : Array Oper} {i : Nat} {rest : List Nat} {o : Oper} (ho : ops[i]? = some o) (v : Value) : (B.fr a (.inRegion ops (i :: rest) :: k)).finish v = B.fr (a.put o.dst v) (.inRegion ops rest :: k) := by
  simp only [Frame.finish, Base.fr, ho, Option.bind_some]
  cases o.dst <;> simp [Act.put]
theorem stG_op {ops : Array Oper} {i : Nat} {rest : List Nat} {o : Oper} (ho : ops[i]? = some o) (hw : Region.wanted o (yielded ops a.tmps) = true) (hnd : ∀ c, o.op ≠ .defer c) :
    stepG P true { frame := B.fr a (.inRegion ops (i :: rest) :: k), callers := cs, status := .running, dying := none } w =
      stepG.apply P true (B.fr a (.inRegion ops (i :: rest) :: k)) cs none (execOp a.eval o) w := by
  have he := Base.eval_fr (B := B) (a := a) (.inRegion ops (i :: rest) :: k)
  simp only [Base.fr] at he ⊢
  simp only [stepG, stepG.exec, stepG.oper, Frame.oper?, ho, Option.map_some, Option.getD_some, hw, if_true]
  split
  · rename_i l c h1 h2; exact absurd h2 (hnd c)
  · rw [he]
theorem asks_out {ops : Array Oper} {i : Nat} {rest : List Nat} {o : Oper} (ho : ops[i]? = some o) (hw : Region.wanted o (yielded ops a.tmps) = true) (hnd : ∀ c, o.op ≠ .defer c) (h : o.asks P a w) :
    Outgrown P (lone (B.fr a (.inRegion ops (i :: rest) :: k)) cs w) := by
  obtain ⟨hm, hkept⟩ := h
  have hg := stG_op (P := P) (B := B) (k := k) (cs := cs) (w := w) (rest := rest) ho hw hnd
  have hes : noRoomEvent ∈ (stepG P true { frame := B.fr a (.inRegion ops (i :: rest) :: k), callers := cs, status := .running, dying := none } w).es := by
    rw [hg]
    have hk : ((B.fr a (.inRegion ops (i :: rest) :: k)).kind == CallKind.early) = false := rfl
    have hm' : noRoomEvent ∈ Sem.events P (execOp a.eval o) w #[] := hm
    simp only [stepG.apply, Sem.runT_eq, if_true, hk, Bool.false_eq_true, if_false]
    rw [GStep.es_after]
    refine Array.mem_append.2 (.inl (seen_keeps P _ _ ?_))
    cases hrun : (execOp a.eval o).run P w with
    | ok x w' => exact hm'
    | halt x w' =>
      rw [hrun] at hkept
      cases x with
      | unsupported u => cases u <;> first | exact hkept.elim | exact hm'
      | blocked => exact hkept.elim
      | waiting => exact hkept.elim
      | _ => exact hm'
  refine Outgrown.now (o := { g := 0, fn := (B.fr a (.inRegion ops (i :: rest) :: k)).fn, pos := (B.fr a (.inRegion ops (i :: rest) :: k)).place, act := .mark .noRoom }) ?_ rfl rfl
  rw [stepT, move_lone]
  refine runT_lists P _ 0 { frame := B.fr a (.inRegion ops (i :: rest) :: k), callers := cs, status := .running, dying := none } (by simp [lone]) _ ?_
  exact mem_ofEvents (e := noRoomEvent) (by simpa [lone] using hes)

/-- An operation that yields a value. -/
theorem st_op_value {ops : Array Oper} {i : Nat} {rest : List Nat} {o : Oper} (ho : ops[i]? = some o) (hw : Region.wanted o (yielded ops a.tmps) = true) (hnd : ∀ c, o.op ≠ .defer c) {rv : Value}
    (h : (execOp a.eval o).run P w = .ok (.value rv) w' ∨ ((execOp a.eval o).run P w = .ok .skip w' ∧ rv = undef)) :
    step P (lone (B.fr a (.inRegion ops (i :: rest) :: k)) cs w) = .next (lone (B.fr (a.put o.dst rv) (.inRegion ops rest :: k)) cs w') := by
  rw [← fin_fr ho]
  refine step_lone_go ?_
  rw [stG_op ho hw hnd]
  rcases h with h | ⟨h, rfl⟩
  · simp [stepG.apply, h]
  · simp [stepG.apply, h]

/-- The frame that a call begins. -/
def startOf (P : Program) : Next → Option Frame
  | .enter f args => some (Frame.enter P f args .normal)
  | .round l f tmps assign body => some (Frame.round l f tmps assign body .normal)
  | _ => none
theorem st_op_call {ops : Array Oper} {i : Nat} {rest : List Nat} {o : Oper} (ho : ops[i]? = some o) (hw : Region.wanted o (yielded ops a.tmps) = true) (hnd : ∀ c, o.op ≠ .defer c) {nx : Next} {f0 : Frame}
    (h : (execOp a.eval o).run P w = .ok nx w) (hs : startOf P nx = some f0) :
    step P (lone (B.fr a (.inRegion ops (i :: rest) :: k)) cs w) = .next (lone f0 (B.fr a (.inRegion ops (i :: rest) :: k) :: cs) w) := by
  refine step_lone_go ?_
  rw [stG_op ho hw hnd]
  cases nx <;> simp [startOf] at hs
  · subst hs; simp [stepG.apply, h, Base.fr]
  · subst hs; simp [stepG.apply, h, Base.fr]
end steps

end Go.AM
