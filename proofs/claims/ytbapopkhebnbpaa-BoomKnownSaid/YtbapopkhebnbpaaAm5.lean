/- Each operation that only reckons: the small machine's answer stands for the model's. -/
import Derived.Test.YtbapopkhebnbpaaAm4
import Derived.Laws.StructEq
namespace Go.AM
open Go

variable {P : Program} {f : FM} {tm : T AV} {σ σ' : AS} {a : Act} {v : AV} {o : Oper}

theorem getD_of {l : Array Value} {i : Nat} {x d : Value} (h : l[i]? = some x) : l.getD i d = x := by
  simp [Array.getD_eq_getD_getElem?, h]

theorem opd_sound {x : AOpd} {y : Operand} (hok : okO x y = true) (ha : TR P f tm a.tmps) (hv : opd x tm = some v) : VR P f v (a.eval y) := by
  cases x with
  | tmp t =>
    cases y <;> simp [okO] at hok
    subst hok
    obtain ⟨rv, h1, h2⟩ := ha.1 _ _ hv
    simp only [Act.eval, getD_of h1]; exact h2
  | const c =>
    cases y <;> simp [okO] at hok
    simp [opd] at hv; subst hv
    exact okV.vr _ _ hok
  | func g =>
    cases y <;> simp [okO] at hok
    simp [opd] at hv; subst hv; subst hok
    simp [Act.eval, VR, VRs]

theorem opds_nil : opds [] tm = some [] := rfl
theorem opds_cons (x : AOpd) (l : List AOpd) : opds (x :: l) tm = (opd x tm).bind fun v => (opds l tm).bind fun vs => some (v :: vs) := rfl
theorem opds_sound : ∀ {xs : List AOpd} {ys : List Operand} {vs : List AV}, okOs xs ys = true → TR P f tm a.tmps → opds xs tm = some vs → VRs P f vs (ys.map a.eval)
  | [], [], vs, _, _, h => by simp [opds_nil] at h; subst h; simp [VRs]
  | [], _ :: _, _, h, _, _ => by simp [okOs] at h
  | _ :: _, [], _, h, _, _ => by simp [okOs] at h
  | x :: xs, y :: ys, vs, hok, ha, h => by
    simp [okOs] at hok
    simp only [opds_cons, Option.bind_eq_some_iff] at h
    obtain ⟨u, h1, us, h2, h3⟩ := h
    cases h3
    simp only [List.map_cons, VRs]
    exact ⟨_, _, rfl, opd_sound hok.1 ha h1, opds_sound hok.2 ha h2⟩
def OR (P : Program) (f : FM) (u : Option AV) (q : Option Value) : Prop :=
  match u, q with
  | none, none => True
  | some p, some q => VR P f p q
  | _, _ => False
theorem opdO_sound {x : Option AOpd} {y : Option Operand} {u : Option AV} (hok : okOo x y = true) (ha : TR P f tm a.tmps) (hv : opdO x tm = some u) : OR P f u (y.map a.eval) := by
  cases x <;> cases y <;> simp [okOo] at hok
  · simp [opdO] at hv; subst hv; simp [OR]
  · simp [opdO] at hv
    obtain ⟨z, h1, h2⟩ := hv
    subst h2
    exact opd_sound hok ha h1

def PureOK (P : Program) (f : FM) (o : Oper) (a : Act) (v : AV) (σ σ' : AS) : Prop :=
  σ' = σ ∧ ∃ rv, VR P f v rv ∧ ∀ w, (execOp a.eval o).run P w = .ok (.value rv) w

theorem bind_some {α β : Type} {x : Option α} {g : α → Option β} {b : β} (h : x.bind g = some b) : ∃ a, x = some a ∧ g a = some b := Option.bind_eq_some_iff.1 h
theorem map_some {α β : Type} {x : Option α} {g : α → β} {b : β} (h : x.map g = some b) : ∃ a, x = some a ∧ g a = b := Option.map_eq_some_iff.1 h

theorem run_underlying' {t : Nat} {d : TypeDesc} (h : P.underlying t = some d) (w : World) : (underlying t).run P w = .ok d w := by
  simp [underlying, h]
theorem run_typeInfo' {t : Nat} {i : TypeInfo} (h : P.info? t = some i) (w : World) : (typeInfo t).run P w = .ok i w := by
  simp [typeInfo, h]
theorem run_sizeOf' {t : Nat} {i : TypeInfo} (h : P.info? t = some i) (w : World) : (sizeOf t).run P w = .ok i.size w := by
  simp [sizeOf, run_typeInfo' h]
theorem size_of_ok {t n : Nat} (h : okSize P t n = true) (w : World) : (sizeOf t).run P w = .ok n w := by
  unfold okSize at h
  split at h
  · rename_i i hi
    rw [run_sizeOf' hi, Nat.eq_of_beq_eq_true h]
  · cases h

theorem p_mv {x : AOpd} (hok : ok_mv P x o.op = true) (ha : TR P f tm a.tmps) (hv : op_mv x tm σ = some (v, σ')) : PureOK P f o a v σ σ' := by
  obtain ⟨u, h1, h2⟩ := map_some hv
  cases h2
  refine ⟨rfl, ?_⟩
  unfold ok_mv at hok
  split at hok
  · rename_i y ho
    exact ⟨_, opd_sound hok ha h1, fun w => by simp [execOp, ho]⟩
  · rename_i y ho
    exact ⟨_, opd_sound hok ha h1, fun w => by simp [execOp, ho]⟩
  · rename_i args argTypes ho
    split at hok
    · rename_i n t ht
      split at hok
      · rename_i m e hu
        simp [opd] at h1; subst h1
        simp at hok
        obtain ⟨hm, hsz⟩ := hok
        refine ⟨.int .i64 n, by simp [VR], fun w => ?_⟩
        have h0 : ∃ z, args[0]? = some z := by
          have : 0 < args.size := by omega
          exact ⟨args[0], by simp [this]⟩
        obtain ⟨z, hz⟩ := h0
        simp [execOp, ho, resolve, invoke, builtin, Builtin.len_, ht, hz, run_underlying' hu, goInt, hm]
      · cases hok
    · cases hok
  · cases hok

theorem p_pick {c x y : AOpd} (hok : ok_pick c x y o.op = true) (ha : TR P f tm a.tmps) (hv : op_pick c x y tm σ = some (v, σ')) : PureOK P f o a v σ σ' := by
  unfold ok_pick at hok
  split at hok
  · rename_i c' x' y' ho
    simp at hok
    obtain ⟨u, h1, h2⟩ := bind_some hv
    have hc := opd_sound hok.1.1 ha h1
    split at h2
    · rename_i t
      simp only [VR] at hc
      obtain ⟨z, h3, h4⟩ := map_some h2
      cases h4
      cases t
      · exact ⟨rfl, _, opd_sound hok.2 ha h3, fun w => by simp [execOp, ho, hc, asBool]⟩
      · exact ⟨rfl, _, opd_sound hok.1.2 ha h3, fun w => by simp [execOp, ho, hc, asBool]⟩
    · cases h2
  · cases hok

theorem p_nilCheck {x : AOpd} (hok : ok_nilCheck x o.op = true) (ha : TR P f tm a.tmps) (hv : op_nilCheck x tm σ = some (v, σ')) : PureOK P f o a v σ σ' := by
  unfold ok_nilCheck at hok
  split at hok
  · rename_i y ho
    obtain ⟨u, h1, h2⟩ := bind_some hv
    have hc := opd_sound hok ha h1
    split at h2
    · cases h2
      refine ⟨rfl, _, hc, fun w => ?_⟩
      rename_i p
      obtain ⟨b, q⟩ := p
      simp only [VR] at hc
      obtain ⟨rb, off, rs, hf, hc⟩ := hc
      simp [execOp, ho, hc]
    · cases h2
      refine ⟨rfl, _, hc, fun w => ?_⟩
      simp only [VR] at hc
      obtain ⟨p, q, hc, _⟩ := hc
      simp [execOp, ho, hc]
    · cases h2
      refine ⟨rfl, _, hc, fun w => ?_⟩
      simp only [VR] at hc
      obtain ⟨rb, off, rs, hf, hc⟩ := hc
      simp [execOp, ho, hc]
    · cases h2
  · cases hok

theorem equalIn_bool (d : Nat) {t : Nat} (hu : P.underlying t = some .bool) (x y : Bool) (w : World) : (Op.equalIn (d + 1) t (.bool x) (.bool y)).run P w = .ok (x == y) w := by
  simp only [Op.equalIn, Sem.run_bind, run_underlying' hu, Result.andThen_ok, Sem.run_pure]
theorem equalIn_sliceNil (d : Nat) {t e : Nat} (hu : P.underlying t = some (.slice e)) (x : Option Addr) (n c : Nat) (w : World) : (Op.equalIn (d + 1) t (.slice x n c) (.slice none 0 0)).run P w = .ok x.isNone w := by
  cases x <;> simp only [Op.equalIn, Sem.run_bind, run_underlying' hu, Result.andThen_ok, Sem.run_pure, Option.isNone]
theorem equalIn_ptrNil (d : Nat) {t e : Nat} (hu : P.underlying t = some (.pointer e)) (x : Option Addr) (w : World) : (Op.equalIn (d + 1) t (.pointer x) (.pointer none)).run P w = .ok x.isNone w := by
  cases x <;> simp only [Op.equalIn, Sem.run_bind, run_underlying' hu, Result.andThen_ok, Sem.run_pure, Option.isNone]
/-- '==' and '!=' by Op.equal, where the guard is silent. -/
theorem run_eq_of {op : BinOp} {neg : Bool} (hop : (match op with | .eql => !neg | .neq => neg | _ => false) = true) {t ty : Nat} {x y : Operand} (ho : o.op = .binOp op t x y ty)
    {r : Bool} {w : World} (hg : (eqGuard op t x y (a.eval x) (a.eval y)).run P w = .ok () w)
    (h1 : binOp .eql t (a.eval x) (a.eval y) = (do pure (.bool (← Op.equal t (a.eval x) (a.eval y)))))
    (h2 : binOp .neq t (a.eval x) (a.eval y) = (do pure (.bool (!(← Op.equal t (a.eval x) (a.eval y))))))
    (he : (Op.equal t (a.eval x) (a.eval y)).run P w = .ok r w) : (execOp a.eval o).run P w = .ok (.value (.bool (xor neg r))) w := by
  unfold execOp
  rw [ho]
  dsimp only
  split at hop
  · simp at hop; subst hop
    rw [h1]
    simp only [Sem.run_bind, hg, he, Result.andThen_ok, Sem.run_pure, Bool.false_xor]
  · subst hop
    rw [h2]
    simp only [Sem.run_bind, hg, he, Result.andThen_ok, Sem.run_pure, Bool.true_xor]
  · cases hop

theorem p_eqB {neg : Bool} {x y : AOpd} (hok : ok_eqB P neg x y o.op = true) (ha : TR P f tm a.tmps) (hv : op_eqB neg x y tm σ = some (v, σ')) : PureOK P f o a v σ σ' := by
  unfold ok_eqB at hok
  split at hok
  · rename_i op t p q ty ho
    simp only [Bool.and_eq_true] at hok
    obtain ⟨⟨⟨hop, hx⟩, hy⟩, ht⟩ := hok
    split at ht
    · rename_i hu
      obtain ⟨u1, h1, h2⟩ := bind_some hv
      obtain ⟨u2, h3, h4⟩ := bind_some h2
      have hp := opd_sound hx ha h1
      have hq := opd_sound hy ha h3
      split at h4
      · rename_i b1 b2
        cases h4
        simp only [VR] at hp hq
        refine ⟨rfl, .bool (xor neg (b1 == b2)), by simp [VR], fun w => run_eq_of hop ho ?_ ?_ ?_ ?_⟩
        · rw [hp, hq]; unfold eqGuard; cases op <;> rfl
        · rw [hp, hq]; rfl
        · rw [hp, hq]; rfl
        · rw [hp, hq]; exact equalIn_bool 9999 hu b1 b2 w
      · cases h4
    · cases ht
  · cases hok

theorem p_eqNilS {neg : Bool} {x : AOpd} (hok : ok_eqNilS P neg x o.op = true) (ha : TR P f tm a.tmps) (hv : op_eqNilS neg x tm σ = some (v, σ')) : PureOK P f o a v σ σ' := by
  unfold ok_eqNilS at hok
  split at hok
  · rename_i op t p ty ho
    simp only [Bool.and_eq_true] at hok
    obtain ⟨⟨hop, hx⟩, ht⟩ := hok
    split at ht
    · rename_i e hu
      obtain ⟨u1, h1, h4⟩ := bind_some hv
      have hp := opd_sound hx ha h1
      split at h4
      · rename_i q len cap et ck
        cases h4
        refine ⟨rfl, .bool (xor neg q.isNone), by simp [VR], fun w => ?_⟩
        have key : ∃ b m c, a.eval p = .slice b m c ∧ b.isNone = q.isNone := by
          rcases q with _ | ⟨b, off⟩
          · simp only [VR] at hp; exact ⟨_, _, _, hp.2.2, rfl⟩
          · simp only [VR] at hp; obtain ⟨rb, off', rs, ad, rcap, _, hp, _⟩ := hp; exact ⟨_, _, _, hp, rfl⟩
        obtain ⟨b, m, c, hp, hb⟩ := key
        rw [← hb]
        refine run_eq_of hop ho ?_ ?_ ?_ ?_
        · rw [hp]; unfold eqGuard; cases op <;> rfl
        · rw [hp]; rfl
        · rw [hp]; rfl
        · rw [hp]; exact equalIn_sliceNil 9999 hu b m c w
      · cases h4
    · cases ht
  · cases hok

theorem p_eqNilP {neg : Bool} {x : AOpd} (hok : ok_eqNilP P neg x o.op = true) (ha : TR P f tm a.tmps) (hv : op_eqNilP neg x tm σ = some (v, σ')) : PureOK P f o a v σ σ' := by
  unfold ok_eqNilP at hok
  split at hok
  · rename_i op t p ty ho
    simp only [Bool.and_eq_true] at hok
    obtain ⟨⟨hop, hx⟩, ht⟩ := hok
    split at ht
    · rename_i e hu
      obtain ⟨u1, h1, h4⟩ := bind_some hv
      have hp := opd_sound hx ha h1
      split at h4
      · rename_i q
        cases h4
        refine ⟨rfl, .bool (xor neg q.isNone), by simp [VR], fun w => ?_⟩
        have key : ∃ b, a.eval p = .pointer b ∧ b.isNone = q.isNone := by
          rcases q with _ | ⟨b, off⟩
          · simp only [VR] at hp; exact ⟨_, hp, rfl⟩
          · simp only [VR] at hp; obtain ⟨rb, off', rs, _, hp⟩ := hp; exact ⟨_, hp, rfl⟩
        obtain ⟨b, hp, hb⟩ := key
        rw [← hb]
        refine run_eq_of hop ho ?_ ?_ ?_ ?_
        · rw [hp]; unfold eqGuard; cases op <;> rfl
        · rw [hp]; rfl
        · rw [hp]; rfl
        · rw [hp]; exact equalIn_ptrNil 9999 hu b w
      · cases h4
    · cases ht
  · cases hok

theorem p_not {x : AOpd} (hok : ok_not x o.op = true) (ha : TR P f tm a.tmps) (hv : op_not x tm σ = some (v, σ')) : PureOK P f o a v σ σ' := by
  unfold ok_not at hok
  split at hok
  · rename_i ty y ho
    obtain ⟨u, h1, h2⟩ := bind_some hv
    have hc := opd_sound hok ha h1
    split at h2
    · cases h2
      simp only [VR] at hc
      exact ⟨rfl, _, rfl, fun w => by simp [execOp, ho, hc, Op.unary]⟩
    · cases h2
  · cases hok

end Go.AM
