/- The small machine's equations, one for each form, for rewriting: what comes next is kept as a word until its start is known. -/
import Derived.Test.YtbapopkhebnbpaaMC
import Derived.OpenShut
set_option linter.all false
set_option linter.unusedVariables false
set_option linter.unusedSimpArgs false
set_option linter.unusedSectionVars false
namespace Go.AM
open Go
noncomputable section
variable {ft : T AFunc} {O : Ora} {X : Fns} {tm tm' : T AV} {σ σ' : AS} {h : T AObj} {n fl : Nat} {v : AV}

def nxt (X : Fns) (b : ACode) (r : ExRes) : ExRes :=
  match r with
  | some (.normal, tm, σ) => X.exec b tm σ
  | r => r
theorem nxt_n {b : ACode} : nxt X b (some (.normal, tm, σ)) = X.exec b tm σ := rfl
theorem nxt_e {b : ACode} {j : Nat} : nxt X b (some (.exit j, tm, σ)) = some (.exit j, tm, σ) := rfl
theorem nxt_r {b : ACode} : nxt X b (some (.ret, tm, σ)) = some (.ret, tm, σ) := rfl
def lp (X : Fns) (b : ACode) (r : ExRes) : ExRes :=
  match r with
  | some (.normal, tm, σ) => X.exec (.loop b) tm σ
  | r => r
theorem lp_n {b : ACode} : lp X b (some (.normal, tm, σ)) = X.exec (.loop b) tm σ := rfl
theorem lp_e {b : ACode} {j : Nat} : lp X b (some (.exit j, tm, σ)) = some (.exit j, tm, σ) := rfl
theorem lp_r {b : ACode} : lp X b (some (.ret, tm, σ)) = some (.ret, tm, σ) := rfl
def cnd (X : Fns) (a b : ACode) (tm : T AV) (σ : AS) (r : Option AV) : ExRes :=
  match r with
  | some (.bool true) => X.exec a tm σ
  | some (.bool false) => X.exec b tm σ
  | _ => none
theorem cnd_t {a b : ACode} : cnd X a b tm σ (some (.bool true)) = X.exec a tm σ := rfl
theorem cnd_f {a b : ACode} : cnd X a b tm σ (some (.bool false)) = X.exec b tm σ := rfl
theorem cnd_ite {a b : ACode} {p : Prop} [Decidable p] : cnd X a b tm σ (some (.bool (decide p))) = if p then X.exec a tm σ else X.exec b tm σ := by
  by_cases hp : p <;> simp [hp, cnd]
def blk (id : Nat) (r : ExRes) : ExRes :=
  match r with
  | some (.exit j, tm, σ) => if j = id then some (.normal, tm, σ) else some (.exit j, tm, σ)
  | r => r
theorem blk_n {id : Nat} : blk id (some (.normal, tm, σ)) = some (.normal, tm, σ) := rfl
theorem blk_r {id : Nat} : blk id (some (.ret, tm, σ)) = some (.ret, tm, σ) := rfl
theorem blk_e {id j : Nat} : blk id (some (.exit j, tm, σ)) = if j = id then some (.normal, tm, σ) else some (.exit j, tm, σ) := rfl
def rgn (r : Option (T AV × AS)) : ExRes :=
  match r with
  | some (tm, σ) => some (.normal, tm, σ)
  | none => none
theorem rgn_s : rgn (some (tm, σ)) = some (.normal, tm, σ) := rfl

theorem x_skip : (lim ft O).exec .skip tm σ = some (.normal, tm, σ) := by rw [exec_eq]; rfl
theorem x_label {l : Nat} : (lim ft O).exec (.label l) tm σ = some (.normal, tm, σ) := by rw [exec_eq]; rfl
theorem x_exit {j : Nat} : (lim ft O).exec (.exit j) tm σ = some (.exit j, tm, σ) := by rw [exec_eq]; rfl
theorem x_ret : (lim ft O).exec .ret tm σ = some (.ret, tm, σ) := by rw [exec_eq]; rfl
theorem x_scope {b : ACode} : (lim ft O).exec (.scope b) tm σ = (lim ft O).exec b tm σ := by rw [exec_eq]; rfl
theorem x_seq {a b : ACode} : (lim ft O).exec (.seq a b) tm σ = nxt (lim ft O) b ((lim ft O).exec a tm σ) := by
  rw [exec_eq]
  show ((lim ft O).exec a tm σ).bind _ = _
  cases (lim ft O).exec a tm σ with
  | none => rfl
  | some r => obtain ⟨x, t, s⟩ := r; cases x <;> rfl
theorem x_cond {c : AOpd} {a b : ACode} : (lim ft O).exec (.cond c a b) tm σ = cnd (lim ft O) a b tm σ (opd c tm) := by
  rw [exec_eq]
  show (opd c tm).bind _ = _
  cases opd c tm with
  | none => rfl
  | some r => cases r <;> first | rfl | skip
              rename_i b; cases b <;> rfl
theorem x_block {id : Nat} {b : ACode} : (lim ft O).exec (.block id b) tm σ = blk id ((lim ft O).exec b tm σ) := by
  rw [exec_eq]
  show ((lim ft O).exec b tm σ).map _ = _
  cases (lim ft O).exec b tm σ with
  | none => rfl
  | some r =>
    obtain ⟨x, t, s⟩ := r
    cases x <;> first | rfl | skip
    rename_i j
    show some (bif Nat.beq j id then _ else _) = if j = id then _ else _
    cases e : Nat.beq j id with
    | true => rw [if_pos (Nat.eq_of_beq_eq_true e)]; rfl
    | false => rw [if_neg (Nat.ne_of_beq_eq_false e)]; rfl
theorem x_loop {b : ACode} : (lim ft O).exec (.loop b) tm σ = lp (lim ft O) b ((lim ft O).exec b tm σ) := by
  rw [exec_eq]
  show ((lim ft O).exec b tm σ).bind _ = _
  cases (lim ft O).exec b tm σ with
  | none => rfl
  | some r => obtain ⟨x, t, s⟩ := r; cases x <;> rfl
theorem x_region {d : Bool} {k : Nat} {l : List Stp} : (lim ft O).exec (.region d k l) tm ⟨h, n, fl⟩ = rgn (runSteps (lim ft O) n l tm ⟨h, n + k, fl⟩) := by
  rw [exec_eq]
  show (runSteps (lim ft O) n l tm ⟨h, n + k, fl⟩).map _ = _
  cases runSteps (lim ft O) n l tm ⟨h, n + k, fl⟩ <;> rfl
def rng (n : Nat) (tm : T AV) (r : Option (AV × AS)) : ExRes :=
  match r with
  | some (_, σ') => match σ'.heap.get n with
    | some (.loop r) => bif r.busy then none else some (r.pending, tm, { σ' with heap := σ'.heap.put n none })
    | _ => none
  | none => none
theorem x_range {f : AOpd} {ps : List Nat} {a b : ACode} {fv : AV} (hf : opd f tm = some fv) : (lim ft O).exec (.rangeFunc f ps a b) tm ⟨h, n, fl⟩ =
    rng n tm ((lim ft O).call fv [.yld n] ⟨h.put n (some (.loop { busy := false, done := false, pending := .normal, tmps := tm, params := ps, assign := a, body := b })), n + 1, fl⟩) := by
  rw [exec_eq]
  show (opd f tm).bind _ = _
  rw [hf]
  show ((lim ft O).call fv [.yld n] ⟨h.put n (some (.loop { busy := false, done := false, pending := .normal, tmps := tm, params := ps, assign := a, body := b })), n + 1, fl⟩).bind _ = _
  cases (lim ft O).call fv [.yld n] ⟨h.put n (some (.loop { busy := false, done := false, pending := .normal, tmps := tm, params := ps, assign := a, body := b })), n + 1, fl⟩ with
  | none => rfl
  | some r => rfl

/-! Steps. -/
def cnt (X : Fns) (base : Nat) (l : List Stp) (r : Option (T AV × AS)) : Option (T AV × AS) :=
  match r with
  | some (tm, σ) => runSteps X base l tm σ
  | none => none
theorem cnt_s {base : Nat} {l : List Stp} : cnt X base l (some (tm, σ)) = runSteps X base l tm σ := rfl
def putR (tm : T AV) (d : Option Nat) (r : Option (AV × AS)) : Option (T AV × AS) :=
  match r with
  | some (v, σ) => some (putD tm d (some v), σ)
  | none => none
theorem putR_s {d : Nat} : putR tm (some d) (some (v, σ)) = some (tm.put d (some v), σ) := rfl
theorem putR_n : putR tm none (some (v, σ)) = some (tm, σ) := rfl
def putA (tm : T AV) (d : Option Nat) (n : Nat) (r : Option (AV × AS)) : Option (T AV × AS) :=
  match r with
  | some (v, σ) => some (putD tm d (some v), { σ with next := n })
  | none => none
theorem putA_s {d n' : Nat} : putA tm (some d) n' (some (v, ⟨h, n, fl⟩)) = some (tm.put d (some v), ⟨h, n', fl⟩) := rfl
def reC (X : Fns) (base : Nat) (l : List Stp) (tm : T AV) (σ : AS) (r : Option (AV × AS)) (w : Option AV) : Option (T AV × AS) :=
  match r, w with
  | some (v, _), some w => bif v.beq w then runSteps X base l tm σ else none
  | _, _ => none
theorem beq_int {k : IntKind} {a : Int} : AV.beq (.int k a) (.int k a) = true := by simp [AV.beq]
theorem reC_s {base : Nat} {l : List Stp} {v : AV} (hv : v.beq v = true) : reC X base l tm σ (some (v, σ')) (some v) = runSteps X base l tm σ := by
  show (bif v.beq v then _ else _) = _
  rw [hv]; rfl
theorem rs_nil {base : Nat} : runSteps X base [] tm σ = some (tm, σ) := rfl
theorem rs_ex {base i : Nat} {d : Option Nat} {o : AOp} {l : List Stp} : runSteps X base (.ex i ⟨d, none, o⟩ :: l) tm σ = cnt X base l (putR tm d (opAny X o tm σ)) := by
  rw [runSteps_cons]
  show (opAny X o tm σ).bind _ = _
  cases opAny X o tm σ <;> rfl
def grd (X : Fns) (base : Nat) (d : Option Nat) (o : AOp) (l : List Stp) (tm : T AV) (σ : AS) (w : Bool) (r : Option AV) : Option (T AV × AS) :=
  match r with
  | some (.bool b) => bif b == w then cnt X base l (putR tm d (opAny X o tm σ)) else runSteps X base l (putD tm d none) σ
  | _ => runSteps X base l (putD tm d none) σ
theorem rs_exg {base i s : Nat} {w : Bool} {d : Option Nat} {o : AOp} {l : List Stp} : runSteps X base (.ex i ⟨d, some (s, w), o⟩ :: l) tm σ = grd X base d o l tm σ w (tm.get s) := by
  rw [runSteps_cons]
  show (bif (match tm.get s with | some (.bool b) => b == w | _ => false) then (opAny X o tm σ).bind (fun x => runSteps X base l (putD tm d (some x.1)) x.2) else runSteps X base l (putD tm d none) σ) = grd X base d o l tm σ w (tm.get s)
  generalize tm.get s = r
  cases r with
  | none => rfl
  | some u =>
    cases u <;> first | rfl | skip
    rename_i b
    show (bif b == w then _ else _) = (bif b == w then _ else _)
    cases b == w
    · rfl
    · cases opAny X o tm σ <;> rfl
theorem grd_tt {base : Nat} {d : Option Nat} {o : AOp} {l : List Stp} : grd X base d o l tm σ true (some (.bool true)) = cnt X base l (putR tm d (opAny X o tm σ)) := rfl
theorem grd_ff {base : Nat} {d : Option Nat} {o : AOp} {l : List Stp} : grd X base d o l tm σ false (some (.bool false)) = cnt X base l (putR tm d (opAny X o tm σ)) := rfl
theorem grd_tf {base : Nat} {d : Option Nat} {o : AOp} {l : List Stp} : grd X base d o l tm σ true (some (.bool false)) = runSteps X base l (putD tm d none) σ := rfl
theorem grd_ft {base : Nat} {d : Option Nat} {o : AOp} {l : List Stp} : grd X base d o l tm σ false (some (.bool true)) = runSteps X base l (putD tm d none) σ := rfl
theorem grd_no {base : Nat} {d : Option Nat} {o : AOp} {l : List Stp} {w : Bool} : grd X base d o l tm σ w none = runSteps X base l (putD tm d none) σ := rfl
theorem rs_al {base i j : Nat} {d : Option Nat} {o : AOp} {l : List Stp} (hc : Nat.beq (cls o) 2 = true) : runSteps X base (.al i j ⟨d, none, o⟩ :: l) tm ⟨h, n, fl⟩ = cnt X base l (putA tm d n (opV o tm ⟨h, base + j, fl⟩)) := by
  rw [runSteps_cons]
  show (bif Nat.beq (cls o) 2 then opV o tm ⟨h, base + j, fl⟩ else none).bind _ = _
  rw [hc]
  show (opV o tm ⟨h, base + j, fl⟩).bind _ = _
  cases opV o tm ⟨h, base + j, fl⟩ <;> rfl
theorem rs_re {base i d : Nat} {o : AOp} {l : List Stp} : runSteps X base (.re i ⟨some d, none, o⟩ :: l) tm σ = reC X base l tm σ (opV o tm σ) (tm.get d) := by
  rw [runSteps_cons]
  show (opV o tm σ).bind _ = _
  cases opV o tm σ with
  | none => cases tm.get d <;> rfl
  | some r =>
    show (tm.get d).bind _ = _
    cases tm.get d <;> rfl

/-! Operands. -/
theorem opd_t {t : Nat} : opd (.tmp t) tm = tm.get t := rfl
theorem opd_c : opd (.const v) tm = some v := rfl
theorem opd_f {f : Nat} : opd (.func f) tm = some (.fn f [] []) := rfl
def consO (a : Option AV) (l : Option (List AV)) : Option (List AV) :=
  match a, l with
  | some v, some vs => some (v :: vs)
  | _, _ => none
theorem consO_s {vs : List AV} : consO (some v) (some vs) = some (v :: vs) := rfl
theorem opds_n : opds [] tm = some [] := rfl
theorem opds_c {x : AOpd} {l : List AOpd} : opds (x :: l) tm = consO (opd x tm) (opds l tm) := by
  rw [opds_cons]
  cases opd x tm with
  | none => rfl
  | some v => cases opds l tm <;> rfl
def callO (X : Fns) (f : Option AV) (l : Option (List AV)) (σ : AS) : Option (AV × AS) :=
  match f, l with
  | some f, some l => X.call f l σ
  | _, _ => none
theorem callO_s {f : AV} {l : List AV} : callO X (some f) (some l) σ = X.call f l σ := rfl
theorem op_callE {f : AOpd} {l : List AOpd} : opCall f l X tm σ = callO X (opd f tm) (opds l tm) σ := by
  show (opd f tm).bind _ = _
  cases opd f tm with
  | none => rfl
  | some v => show (opds l tm).bind _ = _; cases opds l tm <;> rfl

/-! Slots, blocks. -/
theorem tget_put {t : T AV} {k j : Nat} {x : Option AV} : (t.put k x).get j = if j = k then x else t.get j := T.get_put _ _ _ _
theorem hget_eq {t : T AObj} {k : Nat} {x : Option AObj} : (t.put k x).get k = x := by rw [T.get_put]; simp
theorem hget_ne {t : T AObj} {k j : Nat} {x : Option AObj} (hne : j ≠ k) : (t.put k x).get j = t.get j := by rw [T.get_put]; simp [hne]
theorem setArgs_c {a : AV} {r : List AV} {i : Nat} : setArgs (a :: r) i tm = setArgs r (i + 1) (tm.put i (some a)) := rfl
theorem setArgs_n {i : Nat} : setArgs [] i tm = tm := rfl
theorem alloc_mk {o : AObj} : AS.alloc ⟨h, n, fl⟩ o = ⟨h.put n (some o), n + 1, fl⟩ := rfl
theorem hget_put {t : T AObj} {k j : Nat} {x : Option AObj} : (t.put k x).get j = if j = k then x else t.get j := T.get_put _ _ _ _
theorem ble_dec {a b : Nat} : Nat.ble a b = decide (a ≤ b) := by
  cases e : Nat.ble a b
  · have : ¬ a ≤ b := fun k => by rw [Nat.ble_eq_true_of_le k] at e; cases e
    simp [this]
  · have := Nat.le_of_ble_eq_true e
    simp [this]
theorem blt_dec {a b : Nat} : Nat.blt a b = decide (a < b) := ble_dec
theorem beq_dec {a b : Nat} : Nat.beq a b = decide (a = b) := by
  cases e : Nat.beq a b
  · have := Nat.ne_of_beq_eq_false e; simp [this]
  · have := Nat.eq_of_beq_eq_true e; simp [this]
/-- Reading one cell, or so many, of what lies at a number. -/
def rd1 (o : Option AObj) (i : Nat) : Option AV :=
  match o with
  | some (.cells c _) => c[i]?
  | _ => none
def rdk (o : Option AObj) (i k : Nat) : Option (List AV) :=
  match o with
  | some (.cells c _) => rd c i k
  | _ => none
theorem rd1_s {c : List AV} {ro : Bool} {i : Nat} : rd1 (some (.cells c ro)) i = c[i]? := rfl
theorem rdk_s {c : List AV} {ro : Bool} {i k : Nat} : rdk (some (.cells c ro)) i k = rd c i k := rfl
theorem ld1 {b o : Nat} : loadV ⟨h, n, fl⟩ none (.ptr (some (b, o))) = rd1 (h.get b) o := by
  show (match h.get b with | some (.cells c _) => some c | _ => none : Option (List AV)).bind _ = _
  unfold rd1
  cases h.get b with
  | none => rfl
  | some x => cases x <;> rfl
theorem readN_mk {b o k : Nat} : AS.readN ⟨h, n, fl⟩ b o k = rdk (h.get b) o k := by
  show (match h.get b with | some (.cells c _) => some c | _ => none : Option (List AV)).bind _ = _
  unfold rdk
  cases h.get b with
  | none => rfl
  | some x => cases x <;> rfl
theorem ldN {b o k : Nat} : loadV ⟨h, n, fl⟩ (some k) (.ptr (some (b, o))) = (rdk (h.get b) o k).map .agg := by
  show (AS.readN ⟨h, n, fl⟩ b o k).map _ = _
  rw [readN_mk]
/-- Writing. -/
def wrO (h : T AObj) (n fl b o : Nat) (vs : List AV) (x : Option AObj) : Option AS :=
  match x with
  | some (.cells c false) => bif decide (fl ≤ b) && decide (o + vs.length ≤ c.length) && vs.all AV.scalar then some ⟨h.put b (some (.cells (wr c o vs) false)), n, fl⟩ else none
  | _ => none
theorem wrO_s {b o : Nat} {c vs : List AV} : wrO h n fl b o vs (some (.cells c false)) = bif decide (fl ≤ b) && decide (o + vs.length ≤ c.length) && vs.all AV.scalar then some ⟨h.put b (some (.cells (wr c o vs) false)), n, fl⟩ else none := rfl
theorem write_mk {b o : Nat} {vs : List AV} : AS.write ⟨h, n, fl⟩ b o vs = wrO h n fl b o vs (h.get b) := by
  show (match h.get b with | some (.cells c false) => bif Nat.ble fl b && Nat.ble (o + vs.length) c.length && vs.all AV.scalar then _ else _ | _ => none) = _
  unfold wrO
  cases h.get b with
  | none => rfl
  | some x => cases x <;> first | rfl | skip
              rename_i c ro
              cases ro
              · show (bif Nat.ble fl b && Nat.ble (o + vs.length) c.length && vs.all AV.scalar then _ else _) = _
                rw [ble_dec, ble_dec]
              · rfl
theorem load1 {b o : Nat} {c : List AV} {ro : Bool} (e : h.get b = some (.cells c ro)) : loadV ⟨h, n, fl⟩ none (.ptr (some (b, o))) = c[o]? := by rw [ld1, e]; rfl
theorem resV_cellE {t : Nat} {s : Sz} : resV tm σ [.cell t s] = (tm.get t).bind fun x => loadV σ s x := by
  show (((tm.get t).bind fun x => loadV σ s x).bind fun v => some [v]).map _ = _
  cases tm.get t with
  | none => rfl
  | some x =>
    show ((loadV σ s x).bind fun v => some [v]).map _ = loadV σ s x
    cases loadV σ s x <;> rfl
theorem resV_two {x y : ARes} {a b : AV} (e1 : resOne tm σ x = some a) (e2 : resOne tm σ y = some b) : resV tm σ [x, y] = some (.tup [a, b]) := by
  show (((resOne tm σ x).bind fun v => ((resOne tm σ y).bind fun v => some [v]).bind fun vs => some (v :: vs))).map _ = _
  rw [e1, e2]; rfl
def two (a b : Option AV) : Option AV :=
  match a, b with
  | some a, some b => some (.tup [a, b])
  | _, _ => none
theorem two_s {a b : AV} : two (some a) (some b) = some (.tup [a, b]) := rfl
theorem resV_tt {t u : Nat} : resV tm σ [.tmp t, .tmp u] = two (tm.get t) (tm.get u) := by
  show (((tm.get t).bind fun v => ((tm.get u).bind fun v => some [v]).bind fun vs => some (v :: vs))).map _ = _
  cases tm.get t with
  | none => rfl
  | some a => cases tm.get u <;> rfl

/-- In range. -/
theorem wrap64 {a : Int} (h1 : -9223372036854775808 ≤ a) (h2 : a ≤ 9223372036854775807) : wrapF .i64 a = a := by
  have hs : wrapSlow .i64 a = a := by
    unfold wrapSlow
    have : (decide (lo .i64 ≤ a) && decide (a ≤ hi .i64)) = true := by simp [lo, hi, h1, h2]
    rw [this]; rfl
  unfold wrapF
  cases a with
  | ofNat m =>
    show (bif Nat.ble m 127 then _ else wrapSlow .i64 (.ofNat m)) = _
    cases Nat.ble m 127
    · exact hs
    · rfl
  | negSucc m => exact hs

/-! Calls. -/
theorem call_fnE {g : Nat} {a c args : List AV} {af : AFunc} (ho : O (.fn g a c) args σ = none) (hg : ft.get g = some af) : (lim ft O).call (.fn g a c) args σ = callF (lim ft O) af (a ++ args ++ c) σ := by
  rw [call_eq]
  unfold ansV
  rw [ho]
  show (ft.get g).bind _ = _
  rw [hg]; rfl
/-- How a function's body ends: with this result. -/
def FnRes (rs : List ARes) (v : AV) (r : ExRes) : Prop := ∃ x tm σ, r = some (x, tm, σ) ∧ (∀ j, x ≠ .exit j) ∧ resV tm σ rs = some v
theorem fnRes_r {rs : List ARes} : FnRes rs v (some (.ret, tm, σ)) ↔ resV tm σ rs = some v :=
  ⟨fun ⟨_, _, _, e, _, h⟩ => by cases e; exact h, fun e => ⟨_, _, _, rfl, fun j => (fun h => by cases h), e⟩⟩
theorem fnRes_n {rs : List ARes} : FnRes rs v (some (.normal, tm, σ)) ↔ resV tm σ rs = some v :=
  ⟨fun ⟨_, _, _, e, _, h⟩ => by cases e; exact h, fun e => ⟨_, _, _, rfl, fun j => (fun h => by cases h), e⟩⟩
theorem resV_tmp {t : Nat} : resV tm σ [.tmp t] = tm.get t := by
  show ((tm.get t).bind fun v => some [v]).map _ = _
  cases tm.get t <;> rfl
theorem resV_cell {t : Nat} {s : Sz} {x : AV} (e : tm.get t = some x) : resV tm σ [.cell t s] = loadV σ s x := by
  show (((tm.get t).bind fun x => loadV σ s x).bind fun v => some [v]).map _ = _
  rw [e]
  show ((loadV σ s x).bind fun v => some [v]).map _ = _
  cases loadV σ s x <;> rfl
theorem pure_call {g : Nat} {a c args : List AV} {af : AFunc} (ho : O (.fn g a c) args ⟨h, n, fl⟩ = none) (hg : ft.get g = some af) (hp : af.pure = true) (hn : (a ++ args ++ c).length = af.nparams)
    (hpl : v.plainRes = true) (hr : FnRes af.results v ((lim ft O).exec af.body (setArgs (a ++ args ++ c) 0 .e) ⟨h, n, n⟩)) : (lim ft O).call (.fn g a c) args ⟨h, n, fl⟩ = some (v, ⟨h, n, fl⟩) := by
  rw [call_fnE ho hg]
  obtain ⟨x, t, s, e1, e2, e3⟩ := hr
  exact callF_pure hn hp e1 e2 e3 hpl
theorem open_call {g : Nat} {a c args : List AV} {af : AFunc} {x : AExit} (ho : O (.fn g a c) args ⟨h, n, fl⟩ = none) (hg : ft.get g = some af) (hp : af.pure = false) (hn : (a ++ args ++ c).length = af.nparams)
    (hr : (lim ft O).exec af.body (setArgs (a ++ args ++ c) 0 .e) ⟨h, n, fl⟩ = some (x, tm, σ')) (hx : ∀ j, x ≠ .exit j) (hv : resV tm σ' af.results = some v) : (lim ft O).call (.fn g a c) args ⟨h, n, fl⟩ = some (v, σ') := by
  rw [call_fnE ho hg]
  unfold callF
  have e : Nat.beq (a ++ args ++ c).length af.nparams = true := by rw [hn]; exact Nat.beq_refl _
  rw [e, hp]
  show ((lim ft O).exec af.body (setArgs (a ++ args ++ c) 0 .e) ⟨h, n, fl⟩).bind _ = _
  rw [hr]
  cases x with
  | exit j => exact absurd rfl (hx j)
  | normal => show (resV tm σ' af.results).map _ = _; rw [hv]; rfl
  | ret => show (resV tm σ' af.results).map _ = _; rw [hv]; rfl
end
end Go.AM
/- Lists in memory that are only read; the search over a list. -/
namespace Go.AM
open Go
noncomputable section
variable {ft : T AFunc} {O : Ora} {X : Fns} {tm tm' : T AV} {σ σ' : AS} {h h' : T AObj} {n n' fl : Nat} {v : AV}

/-- A slice whose elements are these; each takes k cells, and is read as s says. -/
def SlV (h : T AObj) (k : Nat) (s : Sz) (v : AV) (xs : List AV) : Prop :=
  ∃ a c e ck, v = .slc a xs.length c e ck ∧ ∀ (i : Nat) (x : AV), xs[i]? = some x → ∃ b o, a = some (b, o) ∧ ∀ n fl, loadV ⟨h, n, fl⟩ s (.ptr (some (b, o + i * k))) = some x

/-- Whole numbers as values. -/
def ints (l : List Int) : List AV := l.map (.int .i64)

/-- It ends, and so. -/
def Done (r : ExRes) (R : AExit → T AV → AS → Prop) : Prop := ∃ x tm σ, r = some (x, tm, σ) ∧ R x tm σ
theorem done_s {x : AExit} {R : AExit → T AV → AS → Prop} : Done (some (x, tm, σ)) R ↔ R x tm σ :=
  ⟨fun ⟨_, _, _, e, h⟩ => by cases e; exact h, fun h => ⟨_, _, _, rfl, h⟩⟩
theorem Done.mono {r : ExRes} {R S : AExit → T AV → AS → Prop} (h : Done r R) (k : ∀ x tm σ, R x tm σ → S x tm σ) : Done r S :=
  let ⟨x, t, s, e, q⟩ := h; ⟨x, t, s, e, k _ _ _ q⟩
/-- What is asked is kept as a word while the code runs. -/
theorem done_of {r : ExRes} {Q : AExit → T AV → AS → Prop} (h : ∀ R : AExit → T AV → AS → Prop, (∀ x tm σ, Q x tm σ → R x tm σ) → Done r R) : Done r Q := h Q fun _ _ _ q => q
theorem fnRes_of {r : ExRes} {rs : List ARes} (h : Done r fun x tm σ => (∀ j, x ≠ .exit j) ∧ resV tm σ rs = some v) : FnRes rs v r := h

/-- A loop that counts up: what holds ahead of each round, and how it ends. -/
theorem loop_up {b : ACode} (I : Nat → T AV → AS → Prop) (Q : AExit → T AV → AS → Prop) (N : Nat)
    (hstep : ∀ i tm σ, i < N → I i tm σ → ∀ R : AExit → T AV → AS → Prop, (∀ tm σ, I (i + 1) tm σ → R .normal tm σ) → (∀ x tm σ, x ≠ .normal → Q x tm σ → R x tm σ) → Done ((lim ft O).exec b tm σ) R)
    (hend : ∀ tm σ, I N tm σ → ∀ R : AExit → T AV → AS → Prop, (∀ x tm σ, x ≠ .normal → Q x tm σ → R x tm σ) → Done ((lim ft O).exec b tm σ) R) :
    ∀ d i tm σ, i + d = N → I i tm σ → Done ((lim ft O).exec (.loop b) tm σ) Q := by
  have fin : ∀ tm σ x tm' σ', x ≠ .normal → (lim ft O).exec b tm σ = some (x, tm', σ') → Q x tm' σ' → Done ((lim ft O).exec (.loop b) tm σ) Q := by
    intro tm σ x tm' σ' hx e q
    refine ⟨x, tm', σ', ?_, q⟩
    rw [x_loop, e]
    cases x with
    | normal => exact absurd rfl hx
    | exit j => rfl
    | ret => rfl
  intro d
  induction d with
  | zero =>
    intro i tm σ hi hI
    have : i = N := by omega
    subst this
    obtain ⟨x, tm', σ', e, hx, q⟩ := hend tm σ hI (fun x tm σ => x ≠ .normal ∧ Q x tm σ) fun _ _ _ a b => ⟨a, b⟩
    exact fin _ _ _ _ _ hx e q
  | succ d ih =>
    intro i tm σ hi hI
    obtain ⟨x, tm', σ', e, q⟩ := hstep i tm σ (by omega) hI (fun x tm σ => (x = .normal ∧ I (i + 1) tm σ) ∨ (x ≠ .normal ∧ Q x tm σ)) (fun _ _ a => .inl ⟨rfl, a⟩) (fun _ _ _ a b => .inr ⟨a, b⟩)
    rcases q with ⟨rfl, hI'⟩ | ⟨hx, q⟩
    · obtain ⟨x, tm2, σ2, e2, q⟩ := ih (i + 1) tm' σ' (by omega) hI'
      exact ⟨x, tm2, σ2, by rw [x_loop, e]; exact e2, q⟩
    · exact fin _ _ _ _ _ hx e q

/-- The rounds of a search: slices.IndexFunc. -/
def idxLoop (k : Nat) (s : Sz) : ACode := .seq (.region false 0 [.ex 0 ⟨(some 9), none, .bin .lss (.tmp 8) (.tmp 7)⟩]) (.seq (.cond (.tmp 9) (.skip) (.exit 0)) (.seq (.block 1 (.seq (.region false 0 [.ex 0 ⟨(some 10), none, .mv (.tmp 8)⟩, .ex 1 ⟨(some 5), none, .mv (.tmp 10)⟩]) (.seq (.region false 0 [.ex 0 ⟨(some 11), none, .mv (.tmp 1)⟩, .ex 1 ⟨(some 12), none, .mv (.tmp 0)⟩, .ex 2 ⟨(some 13), none, .mv (.tmp 5)⟩, .ex 3 ⟨(some 14), none, .idxAddrS k (.tmp 12) (.tmp 13)⟩, .ex 4 ⟨(some 15), none, .load s (.tmp 14)⟩, .ex 5 ⟨(some 16), none, .call (.tmp 11) [(.tmp 15)]⟩]) (.cond (.tmp 16) (.seq (.region false 0 [.ex 0 ⟨(some 17), none, .mv (.tmp 5)⟩, .ex 1 ⟨(some 4), none, .mv (.tmp 17)⟩]) (.ret)) (.skip))))) (.region false 0 [.ex 0 ⟨(some 18), none, .bin .add (.tmp 8) (.const (.int .i64 1))⟩, .ex 1 ⟨(some 8), none, .mv (.tmp 18)⟩])))
def idxFn (k : Nat) (s : Sz) : AFunc := { nparams := 2, pure := true, results := [.tmp 4], body := .seq (.region false 0 [.ex 0 ⟨(some 4), none, .mv (.const (.int .i64 0))⟩]) (.seq (.seq (.region false 0 [.ex 0 ⟨(some 6), none, .mv (.tmp 0)⟩, .ex 1 ⟨(some 7), none, .lenSlc (.tmp 6)⟩, .ex 2 ⟨(some 8), none, .mv (.const (.int .i64 0))⟩]) (.block 0 (.loop (idxLoop k s)))) (.seq (.region false 0 [.ex 0 ⟨(some 4), none, .mv (.const (.int .i64 (-1)))⟩]) (.ret))) }

theorem asNat_int {k : IntKind} {i : Int} : asNat (.int k i) = bif decide (0 ≤ i) then some i.toNat else none := rfl
theorem asNat_nat {k : IntKind} {i : Nat} : asNat (.int k (i : Int)) = some i := by
  show (bif decide ((0 : Int) ≤ (i : Int)) then some (i : Int).toNat else none) = _
  have : decide ((0 : Int) ≤ (i : Int)) = true := by simp
  rw [this]; rfl
theorem blt_lt {a b : Nat} (e : a < b) : Nat.blt a b = true := by simpa [Nat.blt] using Nat.ble_eq_true_of_le e
theorem idxAddr_mk {k i b o len c e : Nat} {ck : CK} {x y : AOpd} (hx : opd x tm = some (.slc (some (b, o)) len c e ck)) (hy : opd y tm = some (.int .i64 (i : Int))) (hi : i < len) :
    op_idxAddrS k x y tm σ = some (.ptr (some (b, o + i * k)), σ) := by
  unfold op_idxAddrS
  rw [hx, hy]
  simp only [Option.bind_some, asNat_nat, blt_lt hi, cond_true]

theorem idx_loop {k : Nat} {s : Sz} {f : AV} {xs : List AV} {p : AV → Bool} (hs : SlV h k s v xs) (hlen : xs.length < 4611686018427387904)
    (hf : ∀ x ∈ xs, (lim ft O).call f [x] ⟨h, n, n⟩ = some (.bool (p x), ⟨h, n, n⟩)) (h0 : tm.get 0 = some v) (h1 : tm.get 1 = some f) (h7 : tm.get 7 = some (.int .i64 xs.length)) (h8 : tm.get 8 = some (.int .i64 0)) :
    Done ((lim ft O).exec (.loop (idxLoop k s)) tm ⟨h, n, n⟩) fun x tm' σ' => σ' = ⟨h, n, n⟩ ∧ ((x = .ret ∧ xs.any p = true ∧ ∃ i : Nat, tm'.get 4 = some (.int .i64 i)) ∨ (x = .exit 0 ∧ xs.any p = false)) := by
  refine loop_up (fun i tm σ => σ = ⟨h, n, n⟩ ∧ tm.get 0 = some v ∧ tm.get 1 = some f ∧ tm.get 7 = some (.int .i64 xs.length) ∧ tm.get 8 = some (.int .i64 (i : Int)) ∧ ∀ j x, j < i → xs[j]? = some x → p x = false) _ xs.length ?_ ?_
    xs.length 0 tm _ (by simp) ⟨rfl, h0, h1, h7, h8, fun j x hj => by omega⟩
  · intro i tm σ hi ⟨hσ, h0, h1, h7, h8, hno⟩ R hI hQ
    subst hσ
    have hx : xs[i]? = some xs[i] := List.getElem?_eq_getElem hi
    obtain ⟨a, c, e, ck, rfl, hl⟩ := id hs
    obtain ⟨b, o, rfl, hld⟩ := hl i _ hx
    have hc := hf xs[i] (List.getElem_mem hi)
    have hlt : ((i : Int) < (xs.length : Int)) := by omega
    cases hp : p xs[i] with
    | true =>
      rw [hp] at hc
      simp -implicitDefEqProofs only [idxLoop, nxt_n, nxt_e, nxt_r, lp_n, lp_e, lp_r, cnd_t, cnd_f, blk_n, blk_r, blk_e, rgn_s, x_skip, x_label, x_exit, x_ret, x_scope, x_seq, x_cond, x_block, x_region, cnt_s, putR_s, putR_n, putA_s, rs_nil, rs_ex, rs_exg, rs_re, grd_tt, grd_ff, grd_tf, grd_ft, grd_no, opd_t, opd_c, opd_f, consO_s, opds_n, opds_c, callO_s, op_callE, tget_put, hget_eq, setArgs_c, setArgs_n, alloc_mk, T.get_e, opAny, callParts, opV, op_mv, op_pick, op_new, op_box, op_build, op_buildSlice, op_load, op_store, op_nilCheck, op_bin, op_eqAgg, op_eqB, op_eqNilS, op_eqNilP, op_not, op_neg, op_conv, op_mkFunc, op_mkMap, op_mkSlice, op_slice, op_sliceArr, op_sliceStr, op_fieldAddr, op_field, op_idxAddrS, op_idxAddrA, op_idxA, op_idxStr, op_lookup, op_mapUpdate, op_mapEntry, op_entryStore, op_extract, op_lenStr, op_lenSlc, op_lenMap, op_append, op_copy, op_clear, op_delete, op_min, op_max, Option.bind_some, Option.map_some, putD, binV, intOp, kEq, kn, Nat.beq_refl, cond_true, cond_false, Nat.add_zero, Nat.zero_add, if_true, if_false, List.nil_append, List.append_nil, List.cons_append, Nat.reduceEqDiff, Nat.reduceAdd, Nat.reduceMul, Nat.reduceSub, ↓reduceIte, reduceCtorEq, fnRes_r, fnRes_n, resV_tmp, Nat.add_eq_zero_iff, Nat.one_ne_zero, and_false, false_and, List.getElem?_cons_zero, List.getElem?_cons_succ, List.getElem?_nil, List.length_cons, List.length_nil, decide_true, decide_false, Bool.true_or, Bool.false_or, Bool.or_true, Bool.or_false, Bool.true_and, Bool.false_and, Bool.and_true, Bool.and_false, Bool.not_true, Bool.not_false, List.all_cons, List.all_nil, AV.scalar, AV.cells, done_s, hget_put, ble_dec, blt_dec, beq_dec, rd1_s, rdk_s, ld1, ldN, readN_mk, wrO_s, write_mk, resV_cellE, resV_tt, two_s, Nat.add_assoc, Nat.left_eq_add, Nat.add_eq_left, Nat.add_left_cancel_iff, Nat.le_refl, Nat.le_add_right, wr, rd, List.take_succ_cons, List.take_zero, List.drop_succ_cons, List.drop_zero, Nat.reduceLeDiff, Nat.reduceLT, Int.reduceLE, Int.reduceLT, Int.reduceEq, Int.reduceNeg, Int.reduceToNat, fillP, partsOf, partV, asNat_int, Int.natCast_nonneg, Nat.zero_le, Nat.zero_mul, Nat.mul_one, Int.toNat_natCast, Int.cast_ofNat_Int, h0, h1, h7, h8, hlt, hi, hld, hc]
      refine hQ _ _ _ (by simp) ⟨rfl, .inl ⟨rfl, List.any_eq_true.2 ⟨_, List.getElem_mem hi, hp⟩, i, ?_⟩⟩
      simp -implicitDefEqProofs only [nxt_n, nxt_e, nxt_r, lp_n, lp_e, lp_r, cnd_t, cnd_f, blk_n, blk_r, blk_e, rgn_s, x_skip, x_label, x_exit, x_ret, x_scope, x_seq, x_cond, x_block, x_region, cnt_s, putR_s, putR_n, putA_s, rs_nil, rs_ex, rs_exg, rs_re, grd_tt, grd_ff, grd_tf, grd_ft, grd_no, opd_t, opd_c, opd_f, consO_s, opds_n, opds_c, callO_s, op_callE, tget_put, hget_eq, setArgs_c, setArgs_n, alloc_mk, T.get_e, opAny, callParts, opV, op_mv, op_pick, op_new, op_box, op_build, op_buildSlice, op_load, op_store, op_nilCheck, op_bin, op_eqAgg, op_eqB, op_eqNilS, op_eqNilP, op_not, op_neg, op_conv, op_mkFunc, op_mkMap, op_mkSlice, op_slice, op_sliceArr, op_sliceStr, op_fieldAddr, op_field, op_idxAddrS, op_idxAddrA, op_idxA, op_idxStr, op_lookup, op_mapUpdate, op_mapEntry, op_entryStore, op_extract, op_lenStr, op_lenSlc, op_lenMap, op_append, op_copy, op_clear, op_delete, op_min, op_max, Option.bind_some, Option.map_some, putD, binV, intOp, kEq, kn, Nat.beq_refl, cond_true, cond_false, Nat.add_zero, Nat.zero_add, if_true, if_false, List.nil_append, List.append_nil, List.cons_append, Nat.reduceEqDiff, Nat.reduceAdd, Nat.reduceMul, Nat.reduceSub, ↓reduceIte, reduceCtorEq, fnRes_r, fnRes_n, resV_tmp, Nat.add_eq_zero_iff, Nat.one_ne_zero, and_false, false_and, List.getElem?_cons_zero, List.getElem?_cons_succ, List.getElem?_nil, List.length_cons, List.length_nil, decide_true, decide_false, Bool.true_or, Bool.false_or, Bool.or_true, Bool.or_false, Bool.true_and, Bool.false_and, Bool.and_true, Bool.and_false, Bool.not_true, Bool.not_false, List.all_cons, List.all_nil, AV.scalar, AV.cells, done_s, hget_put, ble_dec, blt_dec, beq_dec, rd1_s, rdk_s, ld1, ldN, readN_mk, wrO_s, write_mk, resV_cellE, resV_tt, two_s, Nat.add_assoc, Nat.left_eq_add, Nat.add_eq_left, Nat.add_left_cancel_iff, Nat.le_refl, Nat.le_add_right, wr, rd, List.take_succ_cons, List.take_zero, List.drop_succ_cons, List.drop_zero, Nat.reduceLeDiff, Nat.reduceLT, Int.reduceLE, Int.reduceLT, Int.reduceEq, Int.reduceNeg, Int.reduceToNat, fillP, partsOf, partV, asNat_int, Int.natCast_nonneg, Nat.zero_le, Nat.zero_mul, Nat.mul_one, Int.toNat_natCast, Int.cast_ofNat_Int]
    | false =>
      rw [hp] at hc
      simp -implicitDefEqProofs only [idxLoop, nxt_n, nxt_e, nxt_r, lp_n, lp_e, lp_r, cnd_t, cnd_f, blk_n, blk_r, blk_e, rgn_s, x_skip, x_label, x_exit, x_ret, x_scope, x_seq, x_cond, x_block, x_region, cnt_s, putR_s, putR_n, putA_s, rs_nil, rs_ex, rs_exg, rs_re, grd_tt, grd_ff, grd_tf, grd_ft, grd_no, opd_t, opd_c, opd_f, consO_s, opds_n, opds_c, callO_s, op_callE, tget_put, hget_eq, setArgs_c, setArgs_n, alloc_mk, T.get_e, opAny, callParts, opV, op_mv, op_pick, op_new, op_box, op_build, op_buildSlice, op_load, op_store, op_nilCheck, op_bin, op_eqAgg, op_eqB, op_eqNilS, op_eqNilP, op_not, op_neg, op_conv, op_mkFunc, op_mkMap, op_mkSlice, op_slice, op_sliceArr, op_sliceStr, op_fieldAddr, op_field, op_idxAddrS, op_idxAddrA, op_idxA, op_idxStr, op_lookup, op_mapUpdate, op_mapEntry, op_entryStore, op_extract, op_lenStr, op_lenSlc, op_lenMap, op_append, op_copy, op_clear, op_delete, op_min, op_max, Option.bind_some, Option.map_some, putD, binV, intOp, kEq, kn, Nat.beq_refl, cond_true, cond_false, Nat.add_zero, Nat.zero_add, if_true, if_false, List.nil_append, List.append_nil, List.cons_append, Nat.reduceEqDiff, Nat.reduceAdd, Nat.reduceMul, Nat.reduceSub, ↓reduceIte, reduceCtorEq, fnRes_r, fnRes_n, resV_tmp, Nat.add_eq_zero_iff, Nat.one_ne_zero, and_false, false_and, List.getElem?_cons_zero, List.getElem?_cons_succ, List.getElem?_nil, List.length_cons, List.length_nil, decide_true, decide_false, Bool.true_or, Bool.false_or, Bool.or_true, Bool.or_false, Bool.true_and, Bool.false_and, Bool.and_true, Bool.and_false, Bool.not_true, Bool.not_false, List.all_cons, List.all_nil, AV.scalar, AV.cells, done_s, hget_put, ble_dec, blt_dec, beq_dec, rd1_s, rdk_s, ld1, ldN, readN_mk, wrO_s, write_mk, resV_cellE, resV_tt, two_s, Nat.add_assoc, Nat.left_eq_add, Nat.add_eq_left, Nat.add_left_cancel_iff, Nat.le_refl, Nat.le_add_right, wr, rd, List.take_succ_cons, List.take_zero, List.drop_succ_cons, List.drop_zero, Nat.reduceLeDiff, Nat.reduceLT, Int.reduceLE, Int.reduceLT, Int.reduceEq, Int.reduceNeg, Int.reduceToNat, fillP, partsOf, partV, asNat_int, Int.natCast_nonneg, Nat.zero_le, Nat.zero_mul, Nat.mul_one, Int.toNat_natCast, Int.cast_ofNat_Int, h0, h1, h7, h8, hlt, hi, hld, hc]
      have hw : wrapF .i64 ((i : Int) + 1) = ((i + 1 : Nat) : Int) := by rw [wrap64 (by omega) (by omega)]; omega
      refine hI _ _ ⟨rfl, ?_⟩
      simp -implicitDefEqProofs only [nxt_n, nxt_e, nxt_r, lp_n, lp_e, lp_r, cnd_t, cnd_f, blk_n, blk_r, blk_e, rgn_s, x_skip, x_label, x_exit, x_ret, x_scope, x_seq, x_cond, x_block, x_region, cnt_s, putR_s, putR_n, putA_s, rs_nil, rs_ex, rs_exg, rs_re, grd_tt, grd_ff, grd_tf, grd_ft, grd_no, opd_t, opd_c, opd_f, consO_s, opds_n, opds_c, callO_s, op_callE, tget_put, hget_eq, setArgs_c, setArgs_n, alloc_mk, T.get_e, opAny, callParts, opV, op_mv, op_pick, op_new, op_box, op_build, op_buildSlice, op_load, op_store, op_nilCheck, op_bin, op_eqAgg, op_eqB, op_eqNilS, op_eqNilP, op_not, op_neg, op_conv, op_mkFunc, op_mkMap, op_mkSlice, op_slice, op_sliceArr, op_sliceStr, op_fieldAddr, op_field, op_idxAddrS, op_idxAddrA, op_idxA, op_idxStr, op_lookup, op_mapUpdate, op_mapEntry, op_entryStore, op_extract, op_lenStr, op_lenSlc, op_lenMap, op_append, op_copy, op_clear, op_delete, op_min, op_max, Option.bind_some, Option.map_some, putD, binV, intOp, kEq, kn, Nat.beq_refl, cond_true, cond_false, Nat.add_zero, Nat.zero_add, if_true, if_false, List.nil_append, List.append_nil, List.cons_append, Nat.reduceEqDiff, Nat.reduceAdd, Nat.reduceMul, Nat.reduceSub, ↓reduceIte, reduceCtorEq, fnRes_r, fnRes_n, resV_tmp, Nat.add_eq_zero_iff, Nat.one_ne_zero, and_false, false_and, List.getElem?_cons_zero, List.getElem?_cons_succ, List.getElem?_nil, List.length_cons, List.length_nil, decide_true, decide_false, Bool.true_or, Bool.false_or, Bool.or_true, Bool.or_false, Bool.true_and, Bool.false_and, Bool.and_true, Bool.and_false, Bool.not_true, Bool.not_false, List.all_cons, List.all_nil, AV.scalar, AV.cells, done_s, hget_put, ble_dec, blt_dec, beq_dec, rd1_s, rdk_s, ld1, ldN, readN_mk, wrO_s, write_mk, resV_cellE, resV_tt, two_s, Nat.add_assoc, Nat.left_eq_add, Nat.add_eq_left, Nat.add_left_cancel_iff, Nat.le_refl, Nat.le_add_right, wr, rd, List.take_succ_cons, List.take_zero, List.drop_succ_cons, List.drop_zero, Nat.reduceLeDiff, Nat.reduceLT, Int.reduceLE, Int.reduceLT, Int.reduceEq, Int.reduceNeg, Int.reduceToNat, fillP, partsOf, partV, asNat_int, Int.natCast_nonneg, Nat.zero_le, Nat.zero_mul, Nat.mul_one, Int.toNat_natCast, Int.cast_ofNat_Int, h0, h1, h7, hw, true_and]
      intro j x hj hx'
      by_cases e : j = i
      · subst e; rw [hx] at hx'; cases hx'; exact hp
      · exact hno j x (by omega) hx'
  · intro tm σ ⟨hσ, h0, h1, h7, h8, hno⟩ R hQ
    subst hσ
    have hlt : ¬ ((xs.length : Int) < (xs.length : Int)) := by omega
    simp -implicitDefEqProofs only [idxLoop, nxt_n, nxt_e, nxt_r, lp_n, lp_e, lp_r, cnd_t, cnd_f, blk_n, blk_r, blk_e, rgn_s, x_skip, x_label, x_exit, x_ret, x_scope, x_seq, x_cond, x_block, x_region, cnt_s, putR_s, putR_n, putA_s, rs_nil, rs_ex, rs_exg, rs_re, grd_tt, grd_ff, grd_tf, grd_ft, grd_no, opd_t, opd_c, opd_f, consO_s, opds_n, opds_c, callO_s, op_callE, tget_put, hget_eq, setArgs_c, setArgs_n, alloc_mk, T.get_e, opAny, callParts, opV, op_mv, op_pick, op_new, op_box, op_build, op_buildSlice, op_load, op_store, op_nilCheck, op_bin, op_eqAgg, op_eqB, op_eqNilS, op_eqNilP, op_not, op_neg, op_conv, op_mkFunc, op_mkMap, op_mkSlice, op_slice, op_sliceArr, op_sliceStr, op_fieldAddr, op_field, op_idxAddrS, op_idxAddrA, op_idxA, op_idxStr, op_lookup, op_mapUpdate, op_mapEntry, op_entryStore, op_extract, op_lenStr, op_lenSlc, op_lenMap, op_append, op_copy, op_clear, op_delete, op_min, op_max, Option.bind_some, Option.map_some, putD, binV, intOp, kEq, kn, Nat.beq_refl, cond_true, cond_false, Nat.add_zero, Nat.zero_add, if_true, if_false, List.nil_append, List.append_nil, List.cons_append, Nat.reduceEqDiff, Nat.reduceAdd, Nat.reduceMul, Nat.reduceSub, ↓reduceIte, reduceCtorEq, fnRes_r, fnRes_n, resV_tmp, Nat.add_eq_zero_iff, Nat.one_ne_zero, and_false, false_and, List.getElem?_cons_zero, List.getElem?_cons_succ, List.getElem?_nil, List.length_cons, List.length_nil, decide_true, decide_false, Bool.true_or, Bool.false_or, Bool.or_true, Bool.or_false, Bool.true_and, Bool.false_and, Bool.and_true, Bool.and_false, Bool.not_true, Bool.not_false, List.all_cons, List.all_nil, AV.scalar, AV.cells, done_s, hget_put, ble_dec, blt_dec, beq_dec, rd1_s, rdk_s, ld1, ldN, readN_mk, wrO_s, write_mk, resV_cellE, resV_tt, two_s, Nat.add_assoc, Nat.left_eq_add, Nat.add_eq_left, Nat.add_left_cancel_iff, Nat.le_refl, Nat.le_add_right, wr, rd, List.take_succ_cons, List.take_zero, List.drop_succ_cons, List.drop_zero, Nat.reduceLeDiff, Nat.reduceLT, Int.reduceLE, Int.reduceLT, Int.reduceEq, Int.reduceNeg, Int.reduceToNat, fillP, partsOf, partV, asNat_int, Int.natCast_nonneg, Nat.zero_le, Nat.zero_mul, Nat.mul_one, Int.toNat_natCast, Int.cast_ofNat_Int, h7, h8, hlt]
    refine hQ _ _ _ (by simp) ⟨rfl, .inr ⟨rfl, ?_⟩⟩
    rw [List.any_eq_false]
    intro x hx
    obtain ⟨j, hj⟩ := List.getElem?_of_mem hx
    have := hno j x (by have := (List.getElem?_eq_some_iff.1 hj).1; exact this) hj
    simp [this]
/-- slices.IndexFunc, then slices.ContainsFunc: whether there is one. -/
theorem idx_call {k g : Nat} {s : Sz} {f : AV} {xs : List AV} {p : AV → Bool} (hg : ft.get g = some (idxFn k s)) (ho : O (.fn g [] []) [v, f] ⟨h, n, fl⟩ = none) (hs : SlV h k s v xs) (hlen : xs.length < 4611686018427387904)
    (hf : ∀ x ∈ xs, (lim ft O).call f [x] ⟨h, n, n⟩ = some (.bool (p x), ⟨h, n, n⟩)) :
    ∃ i : Int, (lim ft O).call (.fn g [] []) [v, f] ⟨h, n, fl⟩ = some (.int .i64 i, ⟨h, n, fl⟩) ∧ decide (0 ≤ i) = xs.any p := by
  obtain ⟨a, c, e, ck, rfl, hl⟩ := id hs
  obtain ⟨x, tm', σ', e1, rfl, e2⟩ := idx_loop (tm := (((((((T.e).put 0 (some (.slc a xs.length c e ck))).put 1 (some f)).put 4 (some (.int .i64 0))).put 6 (some (.slc a xs.length c e ck))).put 7 (some (.int .i64 (xs.length : Int)))).put 8 (some (.int .i64 0)))) hs hlen hf
    (by simp -implicitDefEqProofs only [nxt_n, nxt_e, nxt_r, lp_n, lp_e, lp_r, cnd_t, cnd_f, blk_n, blk_r, blk_e, rgn_s, x_skip, x_label, x_exit, x_ret, x_scope, x_seq, x_cond, x_block, x_region, cnt_s, putR_s, putR_n, putA_s, rs_nil, rs_ex, rs_exg, rs_re, grd_tt, grd_ff, grd_tf, grd_ft, grd_no, opd_t, opd_c, opd_f, consO_s, opds_n, opds_c, callO_s, op_callE, tget_put, hget_eq, setArgs_c, setArgs_n, alloc_mk, T.get_e, opAny, callParts, opV, op_mv, op_pick, op_new, op_box, op_build, op_buildSlice, op_load, op_store, op_nilCheck, op_bin, op_eqAgg, op_eqB, op_eqNilS, op_eqNilP, op_not, op_neg, op_conv, op_mkFunc, op_mkMap, op_mkSlice, op_slice, op_sliceArr, op_sliceStr, op_fieldAddr, op_field, op_idxAddrS, op_idxAddrA, op_idxA, op_idxStr, op_lookup, op_mapUpdate, op_mapEntry, op_entryStore, op_extract, op_lenStr, op_lenSlc, op_lenMap, op_append, op_copy, op_clear, op_delete, op_min, op_max, Option.bind_some, Option.map_some, putD, binV, intOp, kEq, kn, Nat.beq_refl, cond_true, cond_false, Nat.add_zero, Nat.zero_add, if_true, if_false, List.nil_append, List.append_nil, List.cons_append, Nat.reduceEqDiff, Nat.reduceAdd, Nat.reduceMul, Nat.reduceSub, ↓reduceIte, reduceCtorEq, fnRes_r, fnRes_n, resV_tmp, Nat.add_eq_zero_iff, Nat.one_ne_zero, and_false, false_and, List.getElem?_cons_zero, List.getElem?_cons_succ, List.getElem?_nil, List.length_cons, List.length_nil, decide_true, decide_false, Bool.true_or, Bool.false_or, Bool.or_true, Bool.or_false, Bool.true_and, Bool.false_and, Bool.and_true, Bool.and_false, Bool.not_true, Bool.not_false, List.all_cons, List.all_nil, AV.scalar, AV.cells, done_s, hget_put, ble_dec, blt_dec, beq_dec, rd1_s, rdk_s, ld1, ldN, readN_mk, wrO_s, write_mk, resV_cellE, resV_tt, two_s, Nat.add_assoc, Nat.left_eq_add, Nat.add_eq_left, Nat.add_left_cancel_iff, Nat.le_refl, Nat.le_add_right, wr, rd, List.take_succ_cons, List.take_zero, List.drop_succ_cons, List.drop_zero, Nat.reduceLeDiff, Nat.reduceLT, Int.reduceLE, Int.reduceLT, Int.reduceEq, Int.reduceNeg, Int.reduceToNat, fillP, partsOf, partV, asNat_int, Int.natCast_nonneg, Nat.zero_le, Nat.zero_mul, Nat.mul_one, Int.toNat_natCast, Int.cast_ofNat_Int]) (by simp -implicitDefEqProofs only [nxt_n, nxt_e, nxt_r, lp_n, lp_e, lp_r, cnd_t, cnd_f, blk_n, blk_r, blk_e, rgn_s, x_skip, x_label, x_exit, x_ret, x_scope, x_seq, x_cond, x_block, x_region, cnt_s, putR_s, putR_n, putA_s, rs_nil, rs_ex, rs_exg, rs_re, grd_tt, grd_ff, grd_tf, grd_ft, grd_no, opd_t, opd_c, opd_f, consO_s, opds_n, opds_c, callO_s, op_callE, tget_put, hget_eq, setArgs_c, setArgs_n, alloc_mk, T.get_e, opAny, callParts, opV, op_mv, op_pick, op_new, op_box, op_build, op_buildSlice, op_load, op_store, op_nilCheck, op_bin, op_eqAgg, op_eqB, op_eqNilS, op_eqNilP, op_not, op_neg, op_conv, op_mkFunc, op_mkMap, op_mkSlice, op_slice, op_sliceArr, op_sliceStr, op_fieldAddr, op_field, op_idxAddrS, op_idxAddrA, op_idxA, op_idxStr, op_lookup, op_mapUpdate, op_mapEntry, op_entryStore, op_extract, op_lenStr, op_lenSlc, op_lenMap, op_append, op_copy, op_clear, op_delete, op_min, op_max, Option.bind_some, Option.map_some, putD, binV, intOp, kEq, kn, Nat.beq_refl, cond_true, cond_false, Nat.add_zero, Nat.zero_add, if_true, if_false, List.nil_append, List.append_nil, List.cons_append, Nat.reduceEqDiff, Nat.reduceAdd, Nat.reduceMul, Nat.reduceSub, ↓reduceIte, reduceCtorEq, fnRes_r, fnRes_n, resV_tmp, Nat.add_eq_zero_iff, Nat.one_ne_zero, and_false, false_and, List.getElem?_cons_zero, List.getElem?_cons_succ, List.getElem?_nil, List.length_cons, List.length_nil, decide_true, decide_false, Bool.true_or, Bool.false_or, Bool.or_true, Bool.or_false, Bool.true_and, Bool.false_and, Bool.and_true, Bool.and_false, Bool.not_true, Bool.not_false, List.all_cons, List.all_nil, AV.scalar, AV.cells, done_s, hget_put, ble_dec, blt_dec, beq_dec, rd1_s, rdk_s, ld1, ldN, readN_mk, wrO_s, write_mk, resV_cellE, resV_tt, two_s, Nat.add_assoc, Nat.left_eq_add, Nat.add_eq_left, Nat.add_left_cancel_iff, Nat.le_refl, Nat.le_add_right, wr, rd, List.take_succ_cons, List.take_zero, List.drop_succ_cons, List.drop_zero, Nat.reduceLeDiff, Nat.reduceLT, Int.reduceLE, Int.reduceLT, Int.reduceEq, Int.reduceNeg, Int.reduceToNat, fillP, partsOf, partV, asNat_int, Int.natCast_nonneg, Nat.zero_le, Nat.zero_mul, Nat.mul_one, Int.toNat_natCast, Int.cast_ofNat_Int]) (by simp -implicitDefEqProofs only [nxt_n, nxt_e, nxt_r, lp_n, lp_e, lp_r, cnd_t, cnd_f, blk_n, blk_r, blk_e, rgn_s, x_skip, x_label, x_exit, x_ret, x_scope, x_seq, x_cond, x_block, x_region, cnt_s, putR_s, putR_n, putA_s, rs_nil, rs_ex, rs_exg, rs_re, grd_tt, grd_ff, grd_tf, grd_ft, grd_no, opd_t, opd_c, opd_f, consO_s, opds_n, opds_c, callO_s, op_callE, tget_put, hget_eq, setArgs_c, setArgs_n, alloc_mk, T.get_e, opAny, callParts, opV, op_mv, op_pick, op_new, op_box, op_build, op_buildSlice, op_load, op_store, op_nilCheck, op_bin, op_eqAgg, op_eqB, op_eqNilS, op_eqNilP, op_not, op_neg, op_conv, op_mkFunc, op_mkMap, op_mkSlice, op_slice, op_sliceArr, op_sliceStr, op_fieldAddr, op_field, op_idxAddrS, op_idxAddrA, op_idxA, op_idxStr, op_lookup, op_mapUpdate, op_mapEntry, op_entryStore, op_extract, op_lenStr, op_lenSlc, op_lenMap, op_append, op_copy, op_clear, op_delete, op_min, op_max, Option.bind_some, Option.map_some, putD, binV, intOp, kEq, kn, Nat.beq_refl, cond_true, cond_false, Nat.add_zero, Nat.zero_add, if_true, if_false, List.nil_append, List.append_nil, List.cons_append, Nat.reduceEqDiff, Nat.reduceAdd, Nat.reduceMul, Nat.reduceSub, ↓reduceIte, reduceCtorEq, fnRes_r, fnRes_n, resV_tmp, Nat.add_eq_zero_iff, Nat.one_ne_zero, and_false, false_and, List.getElem?_cons_zero, List.getElem?_cons_succ, List.getElem?_nil, List.length_cons, List.length_nil, decide_true, decide_false, Bool.true_or, Bool.false_or, Bool.or_true, Bool.or_false, Bool.true_and, Bool.false_and, Bool.and_true, Bool.and_false, Bool.not_true, Bool.not_false, List.all_cons, List.all_nil, AV.scalar, AV.cells, done_s, hget_put, ble_dec, blt_dec, beq_dec, rd1_s, rdk_s, ld1, ldN, readN_mk, wrO_s, write_mk, resV_cellE, resV_tt, two_s, Nat.add_assoc, Nat.left_eq_add, Nat.add_eq_left, Nat.add_left_cancel_iff, Nat.le_refl, Nat.le_add_right, wr, rd, List.take_succ_cons, List.take_zero, List.drop_succ_cons, List.drop_zero, Nat.reduceLeDiff, Nat.reduceLT, Int.reduceLE, Int.reduceLT, Int.reduceEq, Int.reduceNeg, Int.reduceToNat, fillP, partsOf, partV, asNat_int, Int.natCast_nonneg, Nat.zero_le, Nat.zero_mul, Nat.mul_one, Int.toNat_natCast, Int.cast_ofNat_Int]) (by simp -implicitDefEqProofs only [nxt_n, nxt_e, nxt_r, lp_n, lp_e, lp_r, cnd_t, cnd_f, blk_n, blk_r, blk_e, rgn_s, x_skip, x_label, x_exit, x_ret, x_scope, x_seq, x_cond, x_block, x_region, cnt_s, putR_s, putR_n, putA_s, rs_nil, rs_ex, rs_exg, rs_re, grd_tt, grd_ff, grd_tf, grd_ft, grd_no, opd_t, opd_c, opd_f, consO_s, opds_n, opds_c, callO_s, op_callE, tget_put, hget_eq, setArgs_c, setArgs_n, alloc_mk, T.get_e, opAny, callParts, opV, op_mv, op_pick, op_new, op_box, op_build, op_buildSlice, op_load, op_store, op_nilCheck, op_bin, op_eqAgg, op_eqB, op_eqNilS, op_eqNilP, op_not, op_neg, op_conv, op_mkFunc, op_mkMap, op_mkSlice, op_slice, op_sliceArr, op_sliceStr, op_fieldAddr, op_field, op_idxAddrS, op_idxAddrA, op_idxA, op_idxStr, op_lookup, op_mapUpdate, op_mapEntry, op_entryStore, op_extract, op_lenStr, op_lenSlc, op_lenMap, op_append, op_copy, op_clear, op_delete, op_min, op_max, Option.bind_some, Option.map_some, putD, binV, intOp, kEq, kn, Nat.beq_refl, cond_true, cond_false, Nat.add_zero, Nat.zero_add, if_true, if_false, List.nil_append, List.append_nil, List.cons_append, Nat.reduceEqDiff, Nat.reduceAdd, Nat.reduceMul, Nat.reduceSub, ↓reduceIte, reduceCtorEq, fnRes_r, fnRes_n, resV_tmp, Nat.add_eq_zero_iff, Nat.one_ne_zero, and_false, false_and, List.getElem?_cons_zero, List.getElem?_cons_succ, List.getElem?_nil, List.length_cons, List.length_nil, decide_true, decide_false, Bool.true_or, Bool.false_or, Bool.or_true, Bool.or_false, Bool.true_and, Bool.false_and, Bool.and_true, Bool.and_false, Bool.not_true, Bool.not_false, List.all_cons, List.all_nil, AV.scalar, AV.cells, done_s, hget_put, ble_dec, blt_dec, beq_dec, rd1_s, rdk_s, ld1, ldN, readN_mk, wrO_s, write_mk, resV_cellE, resV_tt, two_s, Nat.add_assoc, Nat.left_eq_add, Nat.add_eq_left, Nat.add_left_cancel_iff, Nat.le_refl, Nat.le_add_right, wr, rd, List.take_succ_cons, List.take_zero, List.drop_succ_cons, List.drop_zero, Nat.reduceLeDiff, Nat.reduceLT, Int.reduceLE, Int.reduceLT, Int.reduceEq, Int.reduceNeg, Int.reduceToNat, fillP, partsOf, partV, asNat_int, Int.natCast_nonneg, Nat.zero_le, Nat.zero_mul, Nat.mul_one, Int.toNat_natCast, Int.cast_ofNat_Int])
  rcases e2 with ⟨rfl, hany, i, hi⟩ | ⟨rfl, hany⟩
  · refine ⟨i, pure_call ho hg rfl rfl rfl ?_, by rw [hany]; simp⟩
    simp -implicitDefEqProofs only [idxFn, nxt_n, nxt_e, nxt_r, lp_n, lp_e, lp_r, cnd_t, cnd_f, blk_n, blk_r, blk_e, rgn_s, x_skip, x_label, x_exit, x_ret, x_scope, x_seq, x_cond, x_block, x_region, cnt_s, putR_s, putR_n, putA_s, rs_nil, rs_ex, rs_exg, rs_re, grd_tt, grd_ff, grd_tf, grd_ft, grd_no, opd_t, opd_c, opd_f, consO_s, opds_n, opds_c, callO_s, op_callE, tget_put, hget_eq, setArgs_c, setArgs_n, alloc_mk, T.get_e, opAny, callParts, opV, op_mv, op_pick, op_new, op_box, op_build, op_buildSlice, op_load, op_store, op_nilCheck, op_bin, op_eqAgg, op_eqB, op_eqNilS, op_eqNilP, op_not, op_neg, op_conv, op_mkFunc, op_mkMap, op_mkSlice, op_slice, op_sliceArr, op_sliceStr, op_fieldAddr, op_field, op_idxAddrS, op_idxAddrA, op_idxA, op_idxStr, op_lookup, op_mapUpdate, op_mapEntry, op_entryStore, op_extract, op_lenStr, op_lenSlc, op_lenMap, op_append, op_copy, op_clear, op_delete, op_min, op_max, Option.bind_some, Option.map_some, putD, binV, intOp, kEq, kn, Nat.beq_refl, cond_true, cond_false, Nat.add_zero, Nat.zero_add, if_true, if_false, List.nil_append, List.append_nil, List.cons_append, Nat.reduceEqDiff, Nat.reduceAdd, Nat.reduceMul, Nat.reduceSub, ↓reduceIte, reduceCtorEq, fnRes_r, fnRes_n, resV_tmp, Nat.add_eq_zero_iff, Nat.one_ne_zero, and_false, false_and, List.getElem?_cons_zero, List.getElem?_cons_succ, List.getElem?_nil, List.length_cons, List.length_nil, decide_true, decide_false, Bool.true_or, Bool.false_or, Bool.or_true, Bool.or_false, Bool.true_and, Bool.false_and, Bool.and_true, Bool.and_false, Bool.not_true, Bool.not_false, List.all_cons, List.all_nil, AV.scalar, AV.cells, done_s, hget_put, ble_dec, blt_dec, beq_dec, rd1_s, rdk_s, ld1, ldN, readN_mk, wrO_s, write_mk, resV_cellE, resV_tt, two_s, Nat.add_assoc, Nat.left_eq_add, Nat.add_eq_left, Nat.add_left_cancel_iff, Nat.le_refl, Nat.le_add_right, wr, rd, List.take_succ_cons, List.take_zero, List.drop_succ_cons, List.drop_zero, Nat.reduceLeDiff, Nat.reduceLT, Int.reduceLE, Int.reduceLT, Int.reduceEq, Int.reduceNeg, Int.reduceToNat, fillP, partsOf, partV, asNat_int, Int.natCast_nonneg, Nat.zero_le, Nat.zero_mul, Nat.mul_one, Int.toNat_natCast, Int.cast_ofNat_Int, e1, hi]
  · refine ⟨-1, pure_call ho hg rfl rfl rfl ?_, by rw [hany]; simp⟩
    simp -implicitDefEqProofs only [idxFn, nxt_n, nxt_e, nxt_r, lp_n, lp_e, lp_r, cnd_t, cnd_f, blk_n, blk_r, blk_e, rgn_s, x_skip, x_label, x_exit, x_ret, x_scope, x_seq, x_cond, x_block, x_region, cnt_s, putR_s, putR_n, putA_s, rs_nil, rs_ex, rs_exg, rs_re, grd_tt, grd_ff, grd_tf, grd_ft, grd_no, opd_t, opd_c, opd_f, consO_s, opds_n, opds_c, callO_s, op_callE, tget_put, hget_eq, setArgs_c, setArgs_n, alloc_mk, T.get_e, opAny, callParts, opV, op_mv, op_pick, op_new, op_box, op_build, op_buildSlice, op_load, op_store, op_nilCheck, op_bin, op_eqAgg, op_eqB, op_eqNilS, op_eqNilP, op_not, op_neg, op_conv, op_mkFunc, op_mkMap, op_mkSlice, op_slice, op_sliceArr, op_sliceStr, op_fieldAddr, op_field, op_idxAddrS, op_idxAddrA, op_idxA, op_idxStr, op_lookup, op_mapUpdate, op_mapEntry, op_entryStore, op_extract, op_lenStr, op_lenSlc, op_lenMap, op_append, op_copy, op_clear, op_delete, op_min, op_max, Option.bind_some, Option.map_some, putD, binV, intOp, kEq, kn, Nat.beq_refl, cond_true, cond_false, Nat.add_zero, Nat.zero_add, if_true, if_false, List.nil_append, List.append_nil, List.cons_append, Nat.reduceEqDiff, Nat.reduceAdd, Nat.reduceMul, Nat.reduceSub, ↓reduceIte, reduceCtorEq, fnRes_r, fnRes_n, resV_tmp, Nat.add_eq_zero_iff, Nat.one_ne_zero, and_false, false_and, List.getElem?_cons_zero, List.getElem?_cons_succ, List.getElem?_nil, List.length_cons, List.length_nil, decide_true, decide_false, Bool.true_or, Bool.false_or, Bool.or_true, Bool.or_false, Bool.true_and, Bool.false_and, Bool.and_true, Bool.and_false, Bool.not_true, Bool.not_false, List.all_cons, List.all_nil, AV.scalar, AV.cells, done_s, hget_put, ble_dec, blt_dec, beq_dec, rd1_s, rdk_s, ld1, ldN, readN_mk, wrO_s, write_mk, resV_cellE, resV_tt, two_s, Nat.add_assoc, Nat.left_eq_add, Nat.add_eq_left, Nat.add_left_cancel_iff, Nat.le_refl, Nat.le_add_right, wr, rd, List.take_succ_cons, List.take_zero, List.drop_succ_cons, List.drop_zero, Nat.reduceLeDiff, Nat.reduceLT, Int.reduceLE, Int.reduceLT, Int.reduceEq, Int.reduceNeg, Int.reduceToNat, fillP, partsOf, partV, asNat_int, Int.natCast_nonneg, Nat.zero_le, Nat.zero_mul, Nat.mul_one, Int.toNat_natCast, Int.cast_ofNat_Int, e1]
def hasFn (g : Nat) : AFunc := { nparams := 2, pure := true, results := [.tmp 4], body := .seq (.region false 0 [.ex 0 ⟨(some 4), none, .mv (.const (.bool false))⟩]) (.seq (.region false 0 [.ex 0 ⟨(some 5), none, .mv (.tmp 0)⟩, .ex 1 ⟨(some 6), none, .mv (.tmp 1)⟩, .ex 2 ⟨(some 7), none, .call (.func g) [(.tmp 5), (.tmp 6)]⟩, .ex 3 ⟨(some 8), none, .bin .geq (.tmp 7) (.const (.int .i64 0))⟩, .ex 4 ⟨(some 4), none, .mv (.tmp 8)⟩]) (.ret)) }
theorem has_call {k g g2 : Nat} {s : Sz} {f : AV} {xs : List AV} {p : AV → Bool} (hg : ft.get g = some (idxFn k s)) (hg2 : ft.get g2 = some (hasFn g)) (ho2 : O (.fn g2 [] []) [v, f] ⟨h, n, fl⟩ = none) (ho : O (.fn g [] []) [v, f] ⟨h, n, n⟩ = none)
    (hs : SlV h k s v xs) (hlen : xs.length < 4611686018427387904) (hf : ∀ x ∈ xs, (lim ft O).call f [x] ⟨h, n, n⟩ = some (.bool (p x), ⟨h, n, n⟩)) :
    (lim ft O).call (.fn g2 [] []) [v, f] ⟨h, n, fl⟩ = some (.bool (xs.any p), ⟨h, n, fl⟩) := by
  obtain ⟨i, e1, e2⟩ := idx_call (fl := n) hg ho hs hlen hf
  refine pure_call ho2 hg2 rfl rfl rfl ?_
  simp -implicitDefEqProofs only [hasFn, nxt_n, nxt_e, nxt_r, lp_n, lp_e, lp_r, cnd_t, cnd_f, blk_n, blk_r, blk_e, rgn_s, x_skip, x_label, x_exit, x_ret, x_scope, x_seq, x_cond, x_block, x_region, cnt_s, putR_s, putR_n, putA_s, rs_nil, rs_ex, rs_exg, rs_re, grd_tt, grd_ff, grd_tf, grd_ft, grd_no, opd_t, opd_c, opd_f, consO_s, opds_n, opds_c, callO_s, op_callE, tget_put, hget_eq, setArgs_c, setArgs_n, alloc_mk, T.get_e, opAny, callParts, opV, op_mv, op_pick, op_new, op_box, op_build, op_buildSlice, op_load, op_store, op_nilCheck, op_bin, op_eqAgg, op_eqB, op_eqNilS, op_eqNilP, op_not, op_neg, op_conv, op_mkFunc, op_mkMap, op_mkSlice, op_slice, op_sliceArr, op_sliceStr, op_fieldAddr, op_field, op_idxAddrS, op_idxAddrA, op_idxA, op_idxStr, op_lookup, op_mapUpdate, op_mapEntry, op_entryStore, op_extract, op_lenStr, op_lenSlc, op_lenMap, op_append, op_copy, op_clear, op_delete, op_min, op_max, Option.bind_some, Option.map_some, putD, binV, intOp, kEq, kn, Nat.beq_refl, cond_true, cond_false, Nat.add_zero, Nat.zero_add, if_true, if_false, List.nil_append, List.append_nil, List.cons_append, Nat.reduceEqDiff, Nat.reduceAdd, Nat.reduceMul, Nat.reduceSub, ↓reduceIte, reduceCtorEq, fnRes_r, fnRes_n, resV_tmp, Nat.add_eq_zero_iff, Nat.one_ne_zero, and_false, false_and, List.getElem?_cons_zero, List.getElem?_cons_succ, List.getElem?_nil, List.length_cons, List.length_nil, decide_true, decide_false, Bool.true_or, Bool.false_or, Bool.or_true, Bool.or_false, Bool.true_and, Bool.false_and, Bool.and_true, Bool.and_false, Bool.not_true, Bool.not_false, List.all_cons, List.all_nil, AV.scalar, AV.cells, done_s, hget_put, ble_dec, blt_dec, beq_dec, rd1_s, rdk_s, ld1, ldN, readN_mk, wrO_s, write_mk, resV_cellE, resV_tt, two_s, Nat.add_assoc, Nat.left_eq_add, Nat.add_eq_left, Nat.add_left_cancel_iff, Nat.le_refl, Nat.le_add_right, wr, rd, List.take_succ_cons, List.take_zero, List.drop_succ_cons, List.drop_zero, Nat.reduceLeDiff, Nat.reduceLT, Int.reduceLE, Int.reduceLT, Int.reduceEq, Int.reduceNeg, Int.reduceToNat, fillP, partsOf, partV, asNat_int, Int.natCast_nonneg, Nat.zero_le, Nat.zero_mul, Nat.mul_one, Int.toNat_natCast, Int.cast_ofNat_Int, e1, ← e2]
end
end Go.AM
/- All rules of the small machine as one: each by its own proof. Printed by evgen.py. -/
namespace Go.AM
open Go
noncomputable section
variable {ft : T AFunc} {O : Ora} {X : Fns} {tm : T AV} {σ : AS}
theorem oa_mv {x : AOpd} : opAny X (.mv x) tm σ = op_mv x tm σ := rfl
theorem ov_mv {x : AOpd} : opV (.mv x) tm σ = op_mv x tm σ := rfl
theorem oa_pick {c a b : AOpd} : opAny X (.pick c a b) tm σ = op_pick c a b tm σ := rfl
theorem ov_pick {c a b : AOpd} : opV (.pick c a b) tm σ = op_pick c a b tm σ := rfl
theorem oa_new {zero : List AV} : opAny X (.new zero) tm σ = op_new zero tm σ := rfl
theorem ov_new {zero : List AV} : opV (.new zero) tm σ = op_new zero tm σ := rfl
theorem al_new {base i j fl n9 : Nat} {d : Option Nat} {l9 : List Stp} {h : T AObj} {zero : List AV} : runSteps X base (.al i j ⟨d, none, .new zero⟩ :: l9) tm ⟨h, n9, fl⟩ = cnt X base l9 (putA tm d n9 (op_new zero tm ⟨h, base + j, fl⟩)) := rs_al rfl
theorem oa_box {x : AOpd} : opAny X (.box x) tm σ = op_box x tm σ := rfl
theorem ov_box {x : AOpd} : opV (.box x) tm σ = op_box x tm σ := rfl
theorem al_box {base i j fl n9 : Nat} {d : Option Nat} {l9 : List Stp} {h : T AObj} {x : AOpd} : runSteps X base (.al i j ⟨d, none, .box x⟩ :: l9) tm ⟨h, n9, fl⟩ = cnt X base l9 (putA tm d n9 (op_box x tm ⟨h, base + j, fl⟩)) := rs_al rfl
theorem oa_build {zero : List AV} {parts : List (Nat × Nat × AOpd)} : opAny X (.build zero parts) tm σ = op_build zero parts tm σ := rfl
theorem ov_build {zero : List AV} {parts : List (Nat × Nat × AOpd)} : opV (.build zero parts) tm σ = op_build zero parts tm σ := rfl
theorem oa_buildSlice {et n : Nat} {zero : List AV} {parts : List (Nat × Nat × AOpd)} : opAny X (.buildSlice et n zero parts) tm σ = op_buildSlice et n zero parts tm σ := rfl
theorem ov_buildSlice {et n : Nat} {zero : List AV} {parts : List (Nat × Nat × AOpd)} : opV (.buildSlice et n zero parts) tm σ = op_buildSlice et n zero parts tm σ := rfl
theorem al_buildSlice {base i j fl n9 : Nat} {d : Option Nat} {l9 : List Stp} {h : T AObj} {et n : Nat} {zero : List AV} {parts : List (Nat × Nat × AOpd)} : runSteps X base (.al i j ⟨d, none, .buildSlice et n zero parts⟩ :: l9) tm ⟨h, n9, fl⟩ = cnt X base l9 (putA tm d n9 (op_buildSlice et n zero parts tm ⟨h, base + j, fl⟩)) := rs_al rfl
theorem oa_load {s : Sz} {x : AOpd} : opAny X (.load s x) tm σ = op_load s x tm σ := rfl
theorem ov_load {s : Sz} {x : AOpd} : opV (.load s x) tm σ = op_load s x tm σ := rfl
theorem oa_store {n : Nat} {a v : AOpd} : opAny X (.store n a v) tm σ = op_store n a v tm σ := rfl
theorem ov_store {n : Nat} {a v : AOpd} : opV (.store n a v) tm σ = op_store n a v tm σ := rfl
theorem oa_nilCheck {x : AOpd} : opAny X (.nilCheck x) tm σ = op_nilCheck x tm σ := rfl
theorem ov_nilCheck {x : AOpd} : opV (.nilCheck x) tm σ = op_nilCheck x tm σ := rfl
theorem oa_bin {op : BinOp} {x y : AOpd} : opAny X (.bin op x y) tm σ = op_bin op x y tm σ := rfl
theorem ov_bin {op : BinOp} {x y : AOpd} : opV (.bin op x y) tm σ = op_bin op x y tm σ := rfl
theorem oa_eqAgg {n : Nat} {neg : Bool} {x y : AOpd} : opAny X (.eqAgg n neg x y) tm σ = op_eqAgg n neg x y tm σ := rfl
theorem ov_eqAgg {n : Nat} {neg : Bool} {x y : AOpd} : opV (.eqAgg n neg x y) tm σ = op_eqAgg n neg x y tm σ := rfl
theorem oa_eqB {neg : Bool} {x y : AOpd} : opAny X (.eqB neg x y) tm σ = op_eqB neg x y tm σ := rfl
theorem ov_eqB {neg : Bool} {x y : AOpd} : opV (.eqB neg x y) tm σ = op_eqB neg x y tm σ := rfl
theorem oa_eqNilS {neg : Bool} {x : AOpd} : opAny X (.eqNilS neg x) tm σ = op_eqNilS neg x tm σ := rfl
theorem ov_eqNilS {neg : Bool} {x : AOpd} : opV (.eqNilS neg x) tm σ = op_eqNilS neg x tm σ := rfl
theorem oa_eqNilP {neg : Bool} {x : AOpd} : opAny X (.eqNilP neg x) tm σ = op_eqNilP neg x tm σ := rfl
theorem ov_eqNilP {neg : Bool} {x : AOpd} : opV (.eqNilP neg x) tm σ = op_eqNilP neg x tm σ := rfl
theorem oa_not {x : AOpd} : opAny X (.not x) tm σ = op_not x tm σ := rfl
theorem ov_not {x : AOpd} : opV (.not x) tm σ = op_not x tm σ := rfl
theorem oa_neg {x : AOpd} : opAny X (.neg x) tm σ = op_neg x tm σ := rfl
theorem ov_neg {x : AOpd} : opV (.neg x) tm σ = op_neg x tm σ := rfl
theorem oa_conv {k : IntKind} {x : AOpd} : opAny X (.conv k x) tm σ = op_conv k x tm σ := rfl
theorem ov_conv {k : IntKind} {x : AOpd} : opV (.conv k x) tm σ = op_conv k x tm σ := rfl
theorem oa_strBytes {et : Nat} {x : AOpd} : opAny X (.strBytes et x) tm σ = op_strBytes et x tm σ := rfl
theorem ov_strBytes {et : Nat} {x : AOpd} : opV (.strBytes et x) tm σ = op_strBytes et x tm σ := rfl
theorem al_strBytes {base i j fl n9 : Nat} {d : Option Nat} {l9 : List Stp} {h : T AObj} {et : Nat} {x : AOpd} : runSteps X base (.al i j ⟨d, none, .strBytes et x⟩ :: l9) tm ⟨h, n9, fl⟩ = cnt X base l9 (putA tm d n9 (op_strBytes et x tm ⟨h, base + j, fl⟩)) := rs_al rfl
theorem oa_strRunes {et : Nat} {x : AOpd} : opAny X (.strRunes et x) tm σ = op_strRunes et x tm σ := rfl
theorem ov_strRunes {et : Nat} {x : AOpd} : opV (.strRunes et x) tm σ = op_strRunes et x tm σ := rfl
theorem al_strRunes {base i j fl n9 : Nat} {d : Option Nat} {l9 : List Stp} {h : T AObj} {et : Nat} {x : AOpd} : runSteps X base (.al i j ⟨d, none, .strRunes et x⟩ :: l9) tm ⟨h, n9, fl⟩ = cnt X base l9 (putA tm d n9 (op_strRunes et x tm ⟨h, base + j, fl⟩)) := rs_al rfl
theorem oa_sameBytes {x : AOpd} : opAny X (.sameBytes x) tm σ = op_sameBytes x tm σ := rfl
theorem ov_sameBytes {x : AOpd} : opV (.sameBytes x) tm σ = op_sameBytes x tm σ := rfl
theorem oa_mkFunc {f : Nat} {first captured : List AOpd} : opAny X (.mkFunc f first captured) tm σ = op_mkFunc f first captured tm σ := rfl
theorem ov_mkFunc {f : Nat} {first captured : List AOpd} : opV (.mkFunc f first captured) tm σ = op_mkFunc f first captured tm σ := rfl
theorem oa_mkMap  : opAny X (.mkMap ) tm σ = op_mkMap  tm σ := rfl
theorem ov_mkMap  : opV (.mkMap ) tm σ = op_mkMap  tm σ := rfl
theorem al_mkMap {base i j fl n9 : Nat} {d : Option Nat} {l9 : List Stp} {h : T AObj}  : runSteps X base (.al i j ⟨d, none, .mkMap ⟩ :: l9) tm ⟨h, n9, fl⟩ = cnt X base l9 (putA tm d n9 (op_mkMap  tm ⟨h, base + j, fl⟩)) := rs_al rfl
theorem oa_mkSlice {et bytes : Nat} {zero : List AV} {len cap : AOpd} : opAny X (.mkSlice et bytes zero len cap) tm σ = op_mkSlice et bytes zero len cap tm σ := rfl
theorem ov_mkSlice {et bytes : Nat} {zero : List AV} {len cap : AOpd} : opV (.mkSlice et bytes zero len cap) tm σ = op_mkSlice et bytes zero len cap tm σ := rfl
theorem al_mkSlice {base i j fl n9 : Nat} {d : Option Nat} {l9 : List Stp} {h : T AObj} {et bytes : Nat} {zero : List AV} {len cap : AOpd} : runSteps X base (.al i j ⟨d, none, .mkSlice et bytes zero len cap⟩ :: l9) tm ⟨h, n9, fl⟩ = cnt X base l9 (putA tm d n9 (op_mkSlice et bytes zero len cap tm ⟨h, base + j, fl⟩)) := rs_al rfl
theorem oa_slice {et esz : Nat} {x : AOpd} {lo hi mx : Option AOpd} : opAny X (.slice et esz x lo hi mx) tm σ = op_slice et esz x lo hi mx tm σ := rfl
theorem ov_slice {et esz : Nat} {x : AOpd} {lo hi mx : Option AOpd} : opV (.slice et esz x lo hi mx) tm σ = op_slice et esz x lo hi mx tm σ := rfl
theorem oa_sliceArr {n et esz : Nat} {x : AOpd} {lo hi mx : Option AOpd} : opAny X (.sliceArr n et esz x lo hi mx) tm σ = op_sliceArr n et esz x lo hi mx tm σ := rfl
theorem ov_sliceArr {n et esz : Nat} {x : AOpd} {lo hi mx : Option AOpd} : opV (.sliceArr n et esz x lo hi mx) tm σ = op_sliceArr n et esz x lo hi mx tm σ := rfl
theorem oa_sliceStr {x : AOpd} {lo hi : Option AOpd} : opAny X (.sliceStr x lo hi) tm σ = op_sliceStr x lo hi tm σ := rfl
theorem ov_sliceStr {x : AOpd} {lo hi : Option AOpd} : opV (.sliceStr x lo hi) tm σ = op_sliceStr x lo hi tm σ := rfl
theorem oa_fieldAddr {off : Nat} {x : AOpd} : opAny X (.fieldAddr off x) tm σ = op_fieldAddr off x tm σ := rfl
theorem ov_fieldAddr {off : Nat} {x : AOpd} : opV (.fieldAddr off x) tm σ = op_fieldAddr off x tm σ := rfl
theorem oa_field {off : Nat} {s : Sz} {x : AOpd} : opAny X (.field off s x) tm σ = op_field off s x tm σ := rfl
theorem ov_field {off : Nat} {s : Sz} {x : AOpd} : opV (.field off s x) tm σ = op_field off s x tm σ := rfl
theorem oa_idxAddrS {esz : Nat} {x i : AOpd} : opAny X (.idxAddrS esz x i) tm σ = op_idxAddrS esz x i tm σ := rfl
theorem ov_idxAddrS {esz : Nat} {x i : AOpd} : opV (.idxAddrS esz x i) tm σ = op_idxAddrS esz x i tm σ := rfl
theorem oa_idxAddrA {n esz : Nat} {x i : AOpd} : opAny X (.idxAddrA n esz x i) tm σ = op_idxAddrA n esz x i tm σ := rfl
theorem ov_idxAddrA {n esz : Nat} {x i : AOpd} : opV (.idxAddrA n esz x i) tm σ = op_idxAddrA n esz x i tm σ := rfl
theorem oa_idxA {n esz : Nat} {s : Sz} {x i : AOpd} : opAny X (.idxA n esz s x i) tm σ = op_idxA n esz s x i tm σ := rfl
theorem ov_idxA {n esz : Nat} {s : Sz} {x i : AOpd} : opV (.idxA n esz s x i) tm σ = op_idxA n esz s x i tm σ := rfl
theorem oa_idxStr {x i : AOpd} : opAny X (.idxStr x i) tm σ = op_idxStr x i tm σ := rfl
theorem ov_idxStr {x i : AOpd} : opV (.idxStr x i) tm σ = op_idxStr x i tm σ := rfl
theorem oa_lookup {kn : Nat} {zero : AV} {m k : AOpd} {ok : Bool} : opAny X (.lookup kn zero m k ok) tm σ = op_lookup kn zero m k ok tm σ := rfl
theorem ov_lookup {kn : Nat} {zero : AV} {m k : AOpd} {ok : Bool} : opV (.lookup kn zero m k ok) tm σ = op_lookup kn zero m k ok tm σ := rfl
theorem oa_mapUpdate {kn : Nat} {m k v : AOpd} : opAny X (.mapUpdate kn m k v) tm σ = op_mapUpdate kn m k v tm σ := rfl
theorem ov_mapUpdate {kn : Nat} {m k v : AOpd} : opV (.mapUpdate kn m k v) tm σ = op_mapUpdate kn m k v tm σ := rfl
theorem oa_mapEntry {kn : Nat} {zero : AV} {m k : AOpd} : opAny X (.mapEntry kn zero m k) tm σ = op_mapEntry kn zero m k tm σ := rfl
theorem ov_mapEntry {kn : Nat} {zero : AV} {m k : AOpd} : opV (.mapEntry kn zero m k) tm σ = op_mapEntry kn zero m k tm σ := rfl
theorem oa_entryStore {m s v : AOpd} : opAny X (.entryStore m s v) tm σ = op_entryStore m s v tm σ := rfl
theorem ov_entryStore {m s v : AOpd} : opV (.entryStore m s v) tm σ = op_entryStore m s v tm σ := rfl
theorem oa_extract {x : AOpd} {i : Nat} : opAny X (.extract x i) tm σ = op_extract x i tm σ := rfl
theorem ov_extract {x : AOpd} {i : Nat} : opV (.extract x i) tm σ = op_extract x i tm σ := rfl
theorem oa_call {f : AOpd} {args : List AOpd} : opAny X (.call f args) tm σ = callO X (opd f tm) (opds args tm) σ := by rw [← op_callE]; rfl
theorem oa_lenStr {x : AOpd} : opAny X (.lenStr x) tm σ = op_lenStr x tm σ := rfl
theorem ov_lenStr {x : AOpd} : opV (.lenStr x) tm σ = op_lenStr x tm σ := rfl
theorem oa_lenSlc {x : AOpd} : opAny X (.lenSlc x) tm σ = op_lenSlc x tm σ := rfl
theorem ov_lenSlc {x : AOpd} : opV (.lenSlc x) tm σ = op_lenSlc x tm σ := rfl
theorem oa_lenMap {x : AOpd} : opAny X (.lenMap x) tm σ = op_lenMap x tm σ := rfl
theorem ov_lenMap {x : AOpd} : opV (.lenMap x) tm σ = op_lenMap x tm σ := rfl
theorem oa_append {et esz bytes : Nat} {s x : AOpd} : opAny X (.append et esz bytes s x) tm σ = op_append et esz bytes s x tm σ := rfl
theorem ov_append {et esz bytes : Nat} {s x : AOpd} : opV (.append et esz bytes s x) tm σ = op_append et esz bytes s x tm σ := rfl
theorem oa_copy {esz : Nat} {d s : AOpd} : opAny X (.copy esz d s) tm σ = op_copy esz d s tm σ := rfl
theorem ov_copy {esz : Nat} {d s : AOpd} : opV (.copy esz d s) tm σ = op_copy esz d s tm σ := rfl
theorem oa_clear {zero : List AV} {x : AOpd} : opAny X (.clear zero x) tm σ = op_clear zero x tm σ := rfl
theorem ov_clear {zero : List AV} {x : AOpd} : opV (.clear zero x) tm σ = op_clear zero x tm σ := rfl
theorem oa_delete {kn : Nat} {m k : AOpd} : opAny X (.delete kn m k) tm σ = op_delete kn m k tm σ := rfl
theorem ov_delete {kn : Nat} {m k : AOpd} : opV (.delete kn m k) tm σ = op_delete kn m k tm σ := rfl
theorem oa_min {xs : List AOpd} : opAny X (.min xs) tm σ = op_min xs tm σ := rfl
theorem ov_min {xs : List AOpd} : opV (.min xs) tm σ = op_min xs tm σ := rfl
theorem oa_max {xs : List AOpd} : opAny X (.max xs) tm σ = op_max xs tm σ := rfl
theorem ov_max {xs : List AOpd} : opV (.max xs) tm σ = op_max xs tm σ := rfl
variable {k k' : IntKind} {a b : Int} {v : AV} {c l : List AV} {o n d : Nat}
theorem kEq_self : kEq k k = true := by cases k <;> rfl
theorem cells_int : AV.cells (.int k a) = [.int k a] := rfl
theorem cells_bool {t : Bool} : AV.cells (.bool t) = [.bool t] := rfl
theorem cells_ptr {p : Option (Nat × Nat)} : AV.cells (.ptr p) = [.ptr p] := rfl
theorem cells_slc {p : Option (Nat × Nat)} {e : Nat} {ck : CK} : AV.cells (.slc p o n e ck) = [.slc p o n e ck] := rfl
theorem cells_agg : AV.cells (.agg l) = l := rfl
theorem cells_map {p : Option Nat} : AV.cells (.map p) = [.map p] := rfl
theorem cells_fn {x y : List AV} : AV.cells (.fn n x y) = [.fn n x y] := rfl
theorem cells_str {x : List Nat} : AV.cells (.str x) = [.str x] := rfl
theorem sc_int : AV.scalar (.int k a) = true := rfl
theorem sc_bool {t : Bool} : AV.scalar (.bool t) = true := rfl
theorem sc_ptr {p : Option (Nat × Nat)} : AV.scalar (.ptr p) = true := rfl
theorem sc_slc {p : Option (Nat × Nat)} {e : Nat} {ck : CK} : AV.scalar (.slc p o n e ck) = true := rfl
theorem sc_map {p : Option Nat} : AV.scalar (.map p) = true := rfl
theorem sc_fn {x y : List AV} : AV.scalar (.fn n x y) = true := rfl
theorem sc_str {x : List Nat} : AV.scalar (.str x) = true := rfl
theorem putD_s {x : Option AV} : putD tm (some d) x = tm.put d x := rfl
theorem putD_n {x : Option AV} : putD tm none x = tm := rfl
theorem bin_int_add : binV .add (.int k a) (.int k b) = some (.int k (wrapF k (a + b))) := by show (bif kEq k k then _ else none) = _; rw [kEq_self]; rfl
theorem bin_int_sub : binV .sub (.int k a) (.int k b) = some (.int k (wrapF k (a - b))) := by show (bif kEq k k then _ else none) = _; rw [kEq_self]; rfl
theorem bin_int_mul : binV .mul (.int k a) (.int k b) = some (.int k (wrapF k (a * b))) := by show (bif kEq k k then _ else none) = _; rw [kEq_self]; rfl
theorem bin_int_eql : binV .eql (.int k a) (.int k b) = some (.bool (decide (a = b))) := by show (bif kEq k k then _ else none) = _; rw [kEq_self]; rfl
theorem bin_int_neq : binV .neq (.int k a) (.int k b) = some (.bool (!decide (a = b))) := by show (bif kEq k k then _ else none) = _; rw [kEq_self]; rfl
theorem bin_int_lss : binV .lss (.int k a) (.int k b) = some (.bool (decide (a < b))) := by show (bif kEq k k then _ else none) = _; rw [kEq_self]; rfl
theorem bin_int_leq : binV .leq (.int k a) (.int k b) = some (.bool (decide (a ≤ b))) := by show (bif kEq k k then _ else none) = _; rw [kEq_self]; rfl
theorem bin_int_gtr : binV .gtr (.int k a) (.int k b) = some (.bool (decide (b < a))) := by show (bif kEq k k then _ else none) = _; rw [kEq_self]; rfl
theorem bin_int_geq : binV .geq (.int k a) (.int k b) = some (.bool (decide (b ≤ a))) := by show (bif kEq k k then _ else none) = _; rw [kEq_self]; rfl
theorem bin_int_quo : binV .quo (.int k a) (.int k b) = if b = 0 then none else some (AV.int k (wrapF k (a.tdiv b))) := by
  show (bif kEq k k then _ else none) = _; rw [kEq_self]
  show (bif decide (b = 0) then none else some (AV.int k (wrapF k (a.tdiv b)))) = _
  by_cases h : b = 0 <;> simp [h]
theorem bin_int_rem : binV .rem (.int k a) (.int k b) = if b = 0 then none else some (AV.int k (a.tmod b)) := by
  show (bif kEq k k then _ else none) = _; rw [kEq_self]
  show (bif decide (b = 0) then none else some (AV.int k (a.tmod b))) = _
  by_cases h : b = 0 <;> simp [h]
theorem bin_shr : binV .shr (.int k a) (.int k' b) = if b < 0 then none else some (AV.int k (a.fdiv (2 ^ (Nat.min b.toNat k.bits)))) := by
  show (bif decide (b < 0) then none else _) = _
  by_cases h : b < 0 <;> simp [h]
theorem bin_shl : binV .shl (.int k a) (.int k' b) = if b < 0 then none else some (AV.int k (k.wrap (a * 2 ^ (Nat.min b.toNat k.bits)))) := by
  show (bif decide (b < 0) then none else _) = _
  by_cases h : b < 0 <;> simp [h]
theorem bin_and : binV .and (.int k a) (.int k b) = some (.int k (k.wrap (BitVec.ofInt k.bits a &&& BitVec.ofInt k.bits b).toNat)) := by show (bif kEq k k then _ else none) = _; rw [kEq_self]; rfl
theorem fillP_n : fillP c [] = some c := rfl
theorem fillP_c {r : List (Nat × Nat × AV)} : fillP c ((o, n, v) :: r) = bif decide (v.cells.length = n) && decide (o + n ≤ c.length) && v.cells.all AV.scalar then fillP (wr c o v.cells) r else none := by
  show (bif Nat.beq v.cells.length n && Nat.ble (o + n) c.length && v.cells.all AV.scalar then _ else _) = _
  rw [beq_dec, ble_dec]
def consP (o n : Nat) (a : Option AV) (l : Option (List (Nat × Nat × AV))) : Option (List (Nat × Nat × AV)) :=
  match a, l with
  | some v, some vs => some ((o, n, v) :: vs)
  | _, _ => none
theorem consP_s {vs : List (Nat × Nat × AV)} : consP o n (some v) (some vs) = some ((o, n, v) :: vs) := rfl
theorem partsOf_n : partsOf [] tm = some [] := rfl
theorem partsOf_c {x : AOpd} {r : List (Nat × Nat × AOpd)} : partsOf ((o, n, x) :: r) tm = consP o n (opd x tm) (partsOf r tm) := by
  show (opd x tm).bind _ = _
  cases opd x tm with
  | none => rfl
  | some v => show (partsOf r tm).bind _ = _; cases partsOf r tm <;> rfl
theorem partV_n : partV none c o = c[o]? := rfl
theorem partV_s : partV (some n) c o = (rd c o n).map .agg := rfl
theorem wr_E {vs : List AV} : wr c o vs = c.take o ++ (vs ++ c.drop (o + vs.length)) := rfl
theorem rd_E : rd c o n = bif decide (o + n ≤ c.length) then some ((c.drop o).take n) else none := by
  show (bif Nat.ble (o + n) c.length then _ else _) = _
  rw [ble_dec]
/-- Rules, together. -/
def ev0 :=
  And.intro (@nxt_n) (
  And.intro (@nxt_e) (
  And.intro (@nxt_r) (
  And.intro (@lp_n) (
  And.intro (@lp_e) (
  And.intro (@lp_r) (
  And.intro (@cnd_t) (
  And.intro (@cnd_f) (
  And.intro (@blk_n) (
  And.intro (@blk_r) (
  And.intro (@blk_e) (
  And.intro (@rgn_s) (
  And.intro (@x_skip) (
  And.intro (@x_label) (
  And.intro (@x_exit) (
  And.intro (@x_ret) (
  And.intro (@x_scope) (
  And.intro (@x_seq) (
  And.intro (@x_cond) (
  And.intro (@x_block) (
  And.intro (@x_region) (
  And.intro (@cnt_s) (
  And.intro (@putR_s) (
  And.intro (@putR_n) (
  And.intro (@putA_s) (
  And.intro (@rs_nil) (
  And.intro (@rs_ex) (
  And.intro (@rs_exg) (
  And.intro (@rs_re) (
  And.intro (@grd_tt) (
  And.intro (@grd_ff) (
  And.intro (@grd_tf) (
  And.intro (@grd_ft) (
  And.intro (@grd_no) (
  And.intro (@opd_t) (
  And.intro (@opd_c) (
  And.intro (@opd_f) (
  And.intro (@consO_s) (
  And.intro (@opds_n) (@opds_c)))))))))))))))))))))))))))))))))))))))
/-- Rules, together. -/
def ev1 :=
  And.intro (@callO_s) (
  And.intro (@tget_put) (
  And.intro (@hget_eq) (
  And.intro (@setArgs_c) (
  And.intro (@setArgs_n) (
  And.intro (@alloc_mk) (
  And.intro (@T.get_e) (
  And.intro (@fnRes_r) (
  And.intro (@fnRes_n) (
  And.intro (@resV_tmp) (
  And.intro (@done_s) (
  And.intro (@hget_put) (
  And.intro (@ble_dec) (
  And.intro (@blt_dec) (
  And.intro (@beq_dec) (
  And.intro (@rd1_s) (
  And.intro (@rdk_s) (
  And.intro (@ld1) (
  And.intro (@ldN) (
  And.intro (@readN_mk) (
  And.intro (@wrO_s) (
  And.intro (@write_mk) (
  And.intro (@resV_cellE) (
  And.intro (@resV_tt) (
  And.intro (@two_s) (
  And.intro (@asNat_int) (
  And.intro (@Option.bind_some.{0, 0}) (
  And.intro (@Option.map_some.{0, 0}) (
  And.intro (@cond_true.{1}) (
  And.intro (@cond_false.{1}) (
  And.intro (@Nat.add_zero) (
  And.intro (@Nat.zero_add) (
  And.intro (@List.nil_append.{0}) (
  And.intro (@List.append_nil.{0}) (
  And.intro (@List.cons_append.{0}) (
  And.intro (@Nat.add_eq_zero_iff) (
  And.intro (@Nat.one_ne_zero) (
  And.intro (@and_false) (
  And.intro (@false_and) (@List.getElem?_cons_zero.{0})))))))))))))))))))))))))))))))))))))))
/-- Rules, together. -/
def ev2 :=
  And.intro (@List.getElem?_cons_succ.{0}) (
  And.intro (@List.getElem?_nil.{0}) (
  And.intro (@List.length_cons.{0}) (
  And.intro (@List.length_nil.{0}) (
  And.intro (@decide_true) (
  And.intro (@decide_false) (
  And.intro (@Bool.true_or) (
  And.intro (@Bool.false_or) (
  And.intro (@Bool.or_true) (
  And.intro (@Bool.or_false) (
  And.intro (@Bool.true_and) (
  And.intro (@Bool.false_and) (
  And.intro (@Bool.and_true) (
  And.intro (@Bool.and_false) (
  And.intro (@Bool.not_true) (
  And.intro (@Bool.not_false) (
  And.intro (@List.all_cons.{0}) (
  And.intro (@List.all_nil.{0}) (
  And.intro (@Nat.add_assoc) (
  And.intro (@Nat.left_eq_add) (
  And.intro (@Nat.add_eq_left) (
  And.intro (@Nat.add_left_cancel_iff) (
  And.intro (@Nat.le_refl) (
  And.intro (@Nat.le_add_right) (
  And.intro (@List.take_succ_cons.{0}) (
  And.intro (@List.take_zero.{0}) (
  And.intro (@List.drop_succ_cons.{0}) (
  And.intro (@List.drop_zero.{0}) (
  And.intro (@Int.natCast_nonneg) (
  And.intro (@Nat.zero_le) (
  And.intro (@Nat.zero_mul) (
  And.intro (@Nat.mul_one) (
  And.intro (@Int.toNat_natCast) (
  And.intro (@Int.cast_ofNat_Int) (
  And.intro (@consP_s) (
  And.intro (@oa_mv) (
  And.intro (@ov_mv) (
  And.intro (@oa_pick) (
  And.intro (@ov_pick) (@oa_new)))))))))))))))))))))))))))))))))))))))
/-- Rules, together. -/
def ev3 :=
  And.intro (@ov_new) (
  And.intro (@al_new) (
  And.intro (@oa_box) (
  And.intro (@ov_box) (
  And.intro (@al_box) (
  And.intro (@oa_build) (
  And.intro (@ov_build) (
  And.intro (@oa_buildSlice) (
  And.intro (@ov_buildSlice) (
  And.intro (@al_buildSlice) (
  And.intro (@oa_load) (
  And.intro (@ov_load) (
  And.intro (@oa_store) (
  And.intro (@ov_store) (
  And.intro (@oa_nilCheck) (
  And.intro (@ov_nilCheck) (
  And.intro (@oa_bin) (
  And.intro (@ov_bin) (
  And.intro (@oa_eqAgg) (
  And.intro (@ov_eqAgg) (
  And.intro (@oa_eqB) (
  And.intro (@ov_eqB) (
  And.intro (@oa_eqNilS) (
  And.intro (@ov_eqNilS) (
  And.intro (@oa_eqNilP) (
  And.intro (@ov_eqNilP) (
  And.intro (@oa_not) (
  And.intro (@ov_not) (
  And.intro (@oa_neg) (
  And.intro (@ov_neg) (
  And.intro (@oa_conv) (
  And.intro (@ov_conv) (
  And.intro (@oa_strBytes) (
  And.intro (@ov_strBytes) (
  And.intro (@al_strBytes) (
  And.intro (@oa_strRunes) (
  And.intro (@ov_strRunes) (
  And.intro (@al_strRunes) (
  And.intro (@oa_sameBytes) (@ov_sameBytes)))))))))))))))))))))))))))))))))))))))
/-- Rules, together. -/
def ev4 :=
  And.intro (@oa_mkFunc) (
  And.intro (@ov_mkFunc) (
  And.intro (@oa_mkMap) (
  And.intro (@ov_mkMap) (
  And.intro (@al_mkMap) (
  And.intro (@oa_mkSlice) (
  And.intro (@ov_mkSlice) (
  And.intro (@al_mkSlice) (
  And.intro (@oa_slice) (
  And.intro (@ov_slice) (
  And.intro (@oa_sliceArr) (
  And.intro (@ov_sliceArr) (
  And.intro (@oa_sliceStr) (
  And.intro (@ov_sliceStr) (
  And.intro (@oa_fieldAddr) (
  And.intro (@ov_fieldAddr) (
  And.intro (@oa_field) (
  And.intro (@ov_field) (
  And.intro (@oa_idxAddrS) (
  And.intro (@ov_idxAddrS) (
  And.intro (@oa_idxAddrA) (
  And.intro (@ov_idxAddrA) (
  And.intro (@oa_idxA) (
  And.intro (@ov_idxA) (
  And.intro (@oa_idxStr) (
  And.intro (@ov_idxStr) (
  And.intro (@oa_lookup) (
  And.intro (@ov_lookup) (
  And.intro (@oa_mapUpdate) (
  And.intro (@ov_mapUpdate) (
  And.intro (@oa_mapEntry) (
  And.intro (@ov_mapEntry) (
  And.intro (@oa_entryStore) (
  And.intro (@ov_entryStore) (
  And.intro (@oa_extract) (
  And.intro (@ov_extract) (
  And.intro (@oa_call) (
  And.intro (@oa_lenStr) (
  And.intro (@ov_lenStr) (@oa_lenSlc)))))))))))))))))))))))))))))))))))))))
/-- Rules, together. -/
def ev5 :=
  And.intro (@ov_lenSlc) (
  And.intro (@oa_lenMap) (
  And.intro (@ov_lenMap) (
  And.intro (@oa_append) (
  And.intro (@ov_append) (
  And.intro (@oa_copy) (
  And.intro (@ov_copy) (
  And.intro (@oa_clear) (
  And.intro (@ov_clear) (
  And.intro (@oa_delete) (
  And.intro (@ov_delete) (
  And.intro (@oa_min) (
  And.intro (@ov_min) (
  And.intro (@oa_max) (
  And.intro (@ov_max) (
  And.intro (@op_mv.eq_1) (
  And.intro (@op_pick.eq_1) (
  And.intro (@op_new.eq_1) (
  And.intro (@op_box.eq_1) (
  And.intro (@op_build.eq_1) (
  And.intro (@op_buildSlice.eq_1) (
  And.intro (@op_load.eq_1) (
  And.intro (@op_store.eq_1) (
  And.intro (@op_nilCheck.eq_1) (
  And.intro (@op_bin.eq_1) (
  And.intro (@op_eqAgg.eq_1) (
  And.intro (@op_eqB.eq_1) (
  And.intro (@op_eqNilS.eq_1) (
  And.intro (@op_eqNilP.eq_1) (
  And.intro (@op_not.eq_1) (
  And.intro (@op_neg.eq_1) (
  And.intro (@op_conv.eq_1) (
  And.intro (@op_strBytes.eq_1) (
  And.intro (@op_strRunes.eq_1) (
  And.intro (@op_sameBytes.eq_1) (
  And.intro (@op_mkFunc.eq_1) (
  And.intro (@op_mkMap.eq_1) (
  And.intro (@op_mkSlice.eq_1) (
  And.intro (@op_slice.eq_1) (@op_sliceArr.eq_1)))))))))))))))))))))))))))))))))))))))
/-- Rules, together. -/
def ev6 :=
  And.intro (@op_sliceStr.eq_1) (
  And.intro (@op_fieldAddr.eq_1) (
  And.intro (@op_field.eq_1) (
  And.intro (@op_idxAddrS.eq_1) (
  And.intro (@op_idxAddrA.eq_1) (
  And.intro (@op_idxA.eq_1) (
  And.intro (@op_idxStr.eq_1) (
  And.intro (@op_mapUpdate.eq_1) (
  And.intro (@op_extract.eq_1) (
  And.intro (@op_lenStr.eq_1) (
  And.intro (@op_lenSlc.eq_1) (
  And.intro (@op_lenMap.eq_1) (
  And.intro (@op_append.eq_1) (
  And.intro (@op_copy.eq_1) (
  And.intro (@op_clear.eq_1) (
  And.intro (@op_min.eq_1) (
  And.intro (@op_max.eq_1) (
  And.intro (@kEq_self) (
  And.intro (@cells_int) (
  And.intro (@cells_bool) (
  And.intro (@cells_ptr) (
  And.intro (@cells_slc) (
  And.intro (@cells_agg) (
  And.intro (@cells_map) (
  And.intro (@cells_fn) (
  And.intro (@cells_str) (
  And.intro (@sc_int) (
  And.intro (@sc_bool) (
  And.intro (@sc_ptr) (
  And.intro (@sc_slc) (
  And.intro (@sc_map) (
  And.intro (@sc_fn) (
  And.intro (@sc_str) (
  And.intro (@putD_s) (
  And.intro (@putD_n) (
  And.intro (@bin_int_add) (
  And.intro (@bin_int_sub) (
  And.intro (@bin_int_mul) (
  And.intro (@bin_int_quo) (@bin_int_rem)))))))))))))))))))))))))))))))))))))))
/-- Rules, together. -/
def ev7 :=
  And.intro (@bin_int_eql) (
  And.intro (@bin_int_neq) (
  And.intro (@bin_int_lss) (
  And.intro (@bin_int_leq) (
  And.intro (@bin_int_gtr) (
  And.intro (@bin_int_geq) (
  And.intro (@bin_shr) (
  And.intro (@bin_shl) (
  And.intro (@bin_and) (
  And.intro (@fillP_n) (
  And.intro (@fillP_c) (
  And.intro (@partsOf_n) (
  And.intro (@partsOf_c) (
  And.intro (@partV_n) (
  And.intro (@partV_s) (@rd_E)))))))))))))))
end
end Go.AM
/- Lists in memory: reading an element; memory that grows. -/
namespace Go.AM
open Go
noncomputable section
variable {ft : T AFunc} {O : Ora} {X : Fns} {tm tm' : T AV} {σ σ' : AS} {h h' : T AObj} {n n' fl : Nat} {v : AV}

/-- All that lies in memory lies below n. -/
def Fresh (h : T AObj) (n : Nat) : Prop := ∀ b c, h.get b = some c → b < n
theorem Fresh.mono (hf : Fresh h n) (hn : n ≤ n') : Fresh h n' := fun b c e => Nat.lt_of_lt_of_le (hf b c e) hn
theorem Fresh.put {b : Nat} {o : Option AObj} (hf : Fresh h n) (hb : b < n') (hn : n ≤ n') : Fresh (h.put b o) n' := fun x c e => by
  rw [hget_put] at e
  split at e
  · rename_i e'; rw [e']; exact hb
  · exact Nat.lt_of_lt_of_le (hf x c e) hn
theorem Fresh.none (hf : Fresh h n) {b : Nat} (hb : n ≤ b) : h.get b = none := by
  cases e : h.get b with
  | none => rfl
  | some c => have := hf b c e; omega
/-- What lay below n lies as it lay. -/
def Agree (n : Nat) (h h' : T AObj) : Prop := ∀ b, b < n → h'.get b = h.get b
theorem Agree.refl : Agree n h h := fun _ _ => rfl
theorem Agree.trans {h2 : T AObj} (a : Agree n h h') (b : Agree n h' h2) : Agree n h h2 := fun x hx => (b x hx).trans (a x hx)
theorem Agree.mono (a : Agree n h h') (hn : n' ≤ n) : Agree n' h h' := fun x hx => a x (Nat.lt_of_lt_of_le hx hn)
theorem Agree.put {b : Nat} {o : Option AObj} (a : Agree n h h') (hb : n ≤ b) : Agree n h (h'.put b o) := fun x hx => by rw [hget_put, if_neg (by omega)]; exact a x hx
/-- The block of an element's place is there. -/
theorem load_lt (hf : Fresh h n) {s : Sz} {b o : Nat} {x : AV} (hl : ∀ n fl, loadV ⟨h, n, fl⟩ s (.ptr (some (b, o))) = some x) : b < n := by
  have h0 := hl 0 0
  cases e : h.get b with
  | some c => exact hf b c e
  | none => cases s <;> simp [ld1, ldN, e, rd1, rdk] at h0
theorem SlV.agree {k : Nat} {s : Sz} {xs : List AV} (hs : SlV h k s v xs) (hf : Fresh h n) (ha : Agree n h h') : SlV h' k s v xs := by
  obtain ⟨a, c, e, ck, rfl, hl⟩ := hs
  refine ⟨a, c, e, ck, rfl, fun i x hx => ?_⟩
  obtain ⟨b, o, rfl, hld⟩ := hl i x hx
  have hb := load_lt hf hld
  refine ⟨b, o, rfl, fun n fl => ?_⟩
  have h0 := hld n fl
  rw [← h0]
  cases s <;> simp only [ld1, ldN, ha b hb]
theorem SlV.put {k b : Nat} {s : Sz} {xs : List AV} {o : Option AObj} (hs : SlV h k s v xs) (hf : Fresh h n) (hb : n ≤ b) : SlV (h.put b o) k s v xs := hs.agree hf (Agree.refl.put hb)
/-- An element, of one cell. -/
theorem SlV.one {k i N : Nat} {xs : List AV} {x : AV} (hs : SlV h k none v xs) (hf : Fresh h n) (hx : xs[i]? = some x) (hN : xs.length = N) :
    ∃ b o c e ck, v = .slc (some (b, o)) N c e ck ∧ b < n ∧ rd1 (h.get b) (o + i * k) = some x := by
  subst hN
  obtain ⟨a, c, e, ck, rfl, hl⟩ := hs
  obtain ⟨b, o, rfl, hld⟩ := hl i x hx
  exact ⟨b, o, c, e, ck, rfl, load_lt hf hld, by rw [← ld1 (n := 0) (fl := 0)]; exact hld 0 0⟩
/-- An element, of many cells: whole, and each cell. -/
theorem SlV.many {k q i N : Nat} {xs : List AV} {l : List AV} (hs : SlV h k (some q) v xs) (hf : Fresh h n) (hx : xs[i]? = some (.agg l)) (hN : xs.length = N) :
    ∃ b o c e ck, v = .slc (some (b, o)) N c e ck ∧ b < n ∧ rdk (h.get b) (o + i * k) q = some l ∧ ∀ j y, l[j]? = some y → rd1 (h.get b) (o + (i * k + j)) = some y := by
  subst hN
  obtain ⟨a, c, e, ck, rfl, hl⟩ := hs
  obtain ⟨b, o, rfl, hld⟩ := hl i _ hx
  have h0 := hld 0 0
  rw [ldN] at h0
  have h1 : rdk (h.get b) (o + i * k) q = some l := by
    cases e : rdk (h.get b) (o + i * k) q with
    | none => rw [e] at h0; cases h0
    | some y => rw [e] at h0; cases h0; rfl
  refine ⟨b, o, c, e, ck, rfl, load_lt hf hld, h1, fun j y hy => ?_⟩
  rw [← Nat.add_assoc]
  cases hg : h.get b with
  | none => rw [hg] at h1; cases h1
  | some ob =>
    rw [hg] at h1
    cases ob with
    | map _ _ => cases h1
    | loop _ => cases h1
    | cells cs ro =>
      rw [rdk_s, rd_E] at h1
      rw [rd1_s]
      by_cases hle : o + i * k + q ≤ cs.length
      · simp only [hle, decide_true, cond_true, Option.some.injEq] at h1
        subst h1
        rw [List.getElem?_take] at hy
        split at hy
        · rw [List.getElem?_drop] at hy; exact hy
        · cases hy
      · simp [hle] at h1
theorem SlV.shape {k N : Nat} {s : Sz} {xs : List AV} (hs : SlV h k s v xs) (hN : xs.length = N) : ∃ a c e ck, v = .slc a N c e ck := by
  subst hN
  obtain ⟨a, c, e, ck, rfl, _⟩ := hs; exact ⟨a, c, e, ck, rfl⟩
namespace T
variable {α : Type}
theorem setF_same : ∀ (f : Nat) (t : T α) (k : Nat) (x y : Option α), k < f → setF f (setF f t k x) k y = setF f t k y := by
  intro f
  induction f with
  | zero => intro t k x y h; omega
  | succ f ih =>
    intro t k x y h
    simp only [setF_succ, beq_dec]
    by_cases k0 : k = 0
    · simp [k0, left, right]
    · by_cases k1 : k % 2 = 1
      · simp only [k0, k1, decide_true, decide_false, cond_true, cond_false, left, right, val]
        rw [ih _ _ _ _ (by omega)]
      · simp only [k0, k1, decide_false, cond_false, left, right, val]
        rw [ih _ _ _ _ (by omega)]
theorem put_put (t : T α) (k : Nat) (x y : Option α) : (t.put k x).put k y = t.put k y := setF_same _ _ _ _ _ (Nat.lt_succ_self _)
end T
theorem hput_put {t : T AObj} {k : Nat} {x y : Option AObj} : (t.put k x).put k y = t.put k y := T.put_put _ _ _ _
/-- A fresh block is no old one. -/
theorem ne_new {b n : Nat} (hb : b < n) : (b = n) = False := by simp; omega
theorem ne_newk {b n : Nat} (hb : b < n) (k : Nat) : (b = n + k) = False := by simp; omega
/-- A list of whole numbers in memory. -/
def SlI (h : T AObj) (v : AV) (l : List Int) : Prop := SlV h 1 none v (ints l)
theorem ints_get {l : List Int} {i : Nat} {a : Int} (e : l[i]? = some a) : (ints l)[i]? = some (.int .i64 a) := by unfold ints; rw [List.getElem?_map, e]; rfl
theorem ints_len {l : List Int} : (ints l).length = l.length := by simp [ints]
/-- A slice over a whole block of cells, each an element. -/
theorem SlV.block1 {b e : Nat} {ck : CK} {xs : List AV} {ro : Bool} {c : Nat} (hg : h.get b = some (.cells xs ro)) : SlV h 1 none (.slc (some (b, 0)) xs.length c e ck) xs :=
  ⟨_, _, _, _, rfl, fun i x hx => ⟨b, 0, rfl, fun n fl => by rw [ld1, hg, rd1_s]; simpa using hx⟩⟩
end
end Go.AM
/- A round of a loop over a function. -/
namespace Go.AM
open Go
noncomputable section
variable {ft : T AFunc} {O : Ora} {tm tm1 tm2 tm3 : T AV} {σ σ' σ3 : AS} {h h2 : T AObj} {n n2 fl fl2 : Nat} {v : AV}

theorem yld_call {l : Nat} {r r2 : ALoop} {args : List AV} {x : AExit} (ho : O (.yld l) args ⟨h, n, fl⟩ = none) (hfl : fl ≤ l) (hg : h.get l = some (.loop r)) (hb : r.busy = false) (hd : r.done = false)
    (hp : setParams r.params args r.tmps = some tm1) (ha : (lim ft O).exec r.assign tm1 ⟨h, n, fl⟩ = some (.normal, tm2, ⟨h2, n2, fl2⟩)) (hg2 : h2.get l = some (.loop r2)) (hb2 : r2.busy = false) (hd2 : r2.done = false)
    (hbody : (lim ft O).exec r.body tm2 ⟨h2.put l (some (.loop { r2 with busy := true })), n2, fl2⟩ = some (x, tm3, σ3)) : (lim ft O).call (.yld l) args ⟨h, n, fl⟩ = some (yieldEnd l r2 x σ3) := by
  rw [call_eq]
  unfold ansV
  rw [ho]
  show callYield (lim ft O) l args ⟨h, n, fl⟩ = _
  unfold callYield
  have e1 : Nat.ble fl l = true := Nat.ble_eq_true_of_le hfl
  simp only [e1, Bool.not_true, cond_false, hg, hb, hd, Bool.or_self, hp, Option.bind_some, ha]
  unfold yieldBody
  simp only [hg2, hb2, hd2, Bool.or_self, cond_false]
  simp only [hd2] at hbody
  rw [hbody]; rfl
def rangeC (X : Fns) (ps : List Nat) (a b : ACode) (tm : T AV) (h : T AObj) (n fl : Nat) (f : Option AV) : ExRes :=
  match f with
  | some fv => rng n tm (X.call fv [.yld n] ⟨h.put n (some (.loop { busy := false, done := false, pending := .normal, tmps := tm, params := ps, assign := a, body := b })), n + 1, fl⟩)
  | none => none
theorem rangeC_s {X : Fns} {ps : List Nat} {a b : ACode} {fv : AV} : rangeC X ps a b tm h n fl (some fv) = rng n tm (X.call fv [.yld n] ⟨h.put n (some (.loop { busy := false, done := false, pending := .normal, tmps := tm, params := ps, assign := a, body := b })), n + 1, fl⟩) := rfl
theorem x_rangeE {f : AOpd} {ps : List Nat} {a b : ACode} : (lim ft O).exec (.rangeFunc f ps a b) tm ⟨h, n, fl⟩ = rangeC (lim ft O) ps a b tm h n fl (opd f tm) := by
  cases e : opd f tm with
  | some fv => rw [x_range e]; rfl
  | none =>
    rw [exec_eq]
    show (opd f tm).bind _ = _
    rw [e]; rfl
theorem yieldEnd_n {l : Nat} {r : ALoop} : yieldEnd l r .normal ⟨h, n, fl⟩ = (.bool true, ⟨h.put l (some (.loop { r with busy := false, pending := .normal })), n, fl⟩) := rfl
theorem yieldEnd_r {l : Nat} {r : ALoop} : yieldEnd l r .ret ⟨h, n, fl⟩ = (.bool false, ⟨h.put l (some (.loop { r with busy := false, done := true, pending := .ret })), n, fl⟩) := rfl
theorem yieldEnd_e {l j : Nat} {r : ALoop} : yieldEnd l r (.exit j) ⟨h, n, fl⟩ = (.bool false, ⟨h.put l (some (.loop { r with busy := false, done := true, pending := .exit j })), n, fl⟩) := rfl
theorem rng_s {r : ALoop} (hg : h.get n2 = some (.loop r)) (hb : r.busy = false) : rng n2 tm (some (v, ⟨h, n, fl⟩)) = some (r.pending, tm, ⟨h.put n2 none, n, fl⟩) := by
  show (match h.get n2 with | some (.loop r) => _ | _ => none) = _
  rw [hg]
  show (bif r.busy then none else _) = _
  rw [hb]; rfl
/-- A call that changes memory: what it comes to. -/
theorem call_done {g : Nat} {a c args : List AV} {af : AFunc} {K : AV → AS → Prop} (ho : O (.fn g a c) args ⟨h, n, fl⟩ = none) (hg : ft.get g = some af) (hp : af.pure = false) (hn : (a ++ args ++ c).length = af.nparams)
    (hr : ∀ R : AExit → T AV → AS → Prop, (∀ x tm σ' v, (∀ j, x ≠ .exit j) → resV tm σ' af.results = some v → K v σ' → R x tm σ') → Done ((lim ft O).exec af.body (setArgs (a ++ args ++ c) 0 .e) ⟨h, n, fl⟩) R) :
    ∃ v σ', (lim ft O).call (.fn g a c) args ⟨h, n, fl⟩ = some (v, σ') ∧ K v σ' := by
  obtain ⟨x, tm, σ', e, hx, v, hv, hK⟩ := hr (fun x tm σ' => (∀ j, x ≠ .exit j) ∧ ∃ v, resV tm σ' af.results = some v ∧ K v σ') fun _ _ _ v a b c => ⟨a, v, b, c⟩
  exact ⟨v, σ', open_call ho hg hp hn e hx hv, hK⟩
theorem call_eqn {g : Nat} {a c args : List AV} {af : AFunc} {v : AV} (ho : O (.fn g a c) args ⟨h, n, fl⟩ = none) (hg : ft.get g = some af) (hp : af.pure = false) (hn : (a ++ args ++ c).length = af.nparams)
    (hr : ∀ R : AExit → T AV → AS → Prop, (∀ x tm, (∀ j, x ≠ .exit j) → resV tm σ' af.results = some v → R x tm σ') → Done ((lim ft O).exec af.body (setArgs (a ++ args ++ c) 0 .e) ⟨h, n, fl⟩) R) :
    (lim ft O).call (.fn g a c) args ⟨h, n, fl⟩ = some (v, σ') := by
  obtain ⟨u, s, e, rfl, rfl⟩ := call_done (K := fun u s => u = v ∧ s = σ') ho hg hp hn fun R hR => hr R fun x tm hx hv => hR x tm σ' v hx hv ⟨rfl, rfl⟩
  exact e
/-- What a call keeps of a loop's record. -/
theorem resV_nil : resV tm σ [] = some (.tup []) := rfl
end
end Go.AM
/- Maps whose keys are two whole numbers and whose values are whole numbers. -/
namespace Go.AM
open Go
noncomputable section
variable {ft : T AFunc} {O : Ora} {tm : T AV} {σ σ' : AS} {h : T AObj} {n fl r cl : Nat} {a b v : Int}

structure ME where
  a : Int
  b : Int
  v : Int
  s : Nat
def key2 (a b : Int) : AV := .agg [.int .i64 a, .int .i64 b]
def ME.enc (e : ME) : AV × AV × Nat := (.agg [.int .i64 e.a, .int .i64 e.b], .int .i64 e.v, e.s)
/-- A map in memory. -/
def mobj (m : List ME) (cl : Nat) : AObj := .map (m.map ME.enc) cl
def fx (a b : Int) : List ME → Nat → Option (Nat × Int × Nat)
  | [], _ => none
  | e :: r, k => if e.a = a ∧ e.b = b then some (k, e.v, e.s) else fx a b r (k + 1)
def mget (m : List ME) (a b : Int) : Int :=
  match fx a b m 0 with
  | some (_, v, _) => v
  | none => 0
structure MOK (m : List ME) (cl : Nat) : Prop where
  born : ∀ e ∈ m, e.s < cl
  bapart : m.Pairwise fun x y => x.s ≠ y.s
  kapart : m.Pairwise fun x y => ¬ (x.a = y.a ∧ x.b = y.b)
theorem MOK.nil : MOK [] 0 := ⟨fun e h => (by cases h), .nil, .nil⟩

theorem keyEq_two {a b c d : Int} : keyEq (.agg [.int .i64 a, .int .i64 b]) (.agg [.int .i64 c, .int .i64 d]) = some (decide (c = a ∧ d = b)) := by
  show (bif sameKinds [AV.int .i64 a, AV.int .i64 b] [AV.int .i64 c, AV.int .i64 d] then intsEq [AV.int .i64 a, AV.int .i64 b] [AV.int .i64 c, AV.int .i64 d] else none) = _
  have : sameKinds [AV.int .i64 a, AV.int .i64 b] [AV.int .i64 c, AV.int .i64 d] = true := rfl
  rw [this]
  show (bif kEq .i64 .i64 then (bif decide (a = c) then (bif kEq .i64 .i64 then (bif decide (b = d) then some true else some false) else none) else some false) else none) = _
  have k : kEq .i64 .i64 = true := rfl
  rw [k]
  by_cases h1 : a = c
  · subst h1
    by_cases h2 : b = d
    · subst h2; simp
    · simp [h2, Ne.symm h2]
  · simp [h1, Ne.symm h1]
theorem findK_two {a b : Int} : ∀ (m : List ME) (k : Nat), findK (.agg [.int .i64 a, .int .i64 b]) (m.map ME.enc) k = some ((fx a b m k).map fun p => (p.1, .int .i64 p.2.1, p.2.2))
  | [], k => rfl
  | e :: m, k => by
    show (match keyEq _ (.agg [.int .i64 e.a, .int .i64 e.b]) with | some true => _ | some false => _ | none => _) = _
    rw [keyEq_two]
    unfold fx
    by_cases c : e.a = a ∧ e.b = b
    · simp only [c, and_self, decide_true, if_true]; rfl
    · simp only [c, decide_false, if_false]
      exact findK_two m (k + 1)
theorem findKk_two {a b : Int} {m : List ME} : findKk 2 (.agg [.int .i64 a, .int .i64 b]) (m.map ME.enc) = some ((fx a b m 0).map fun p => (p.1, .int .i64 p.2.1, p.2.2)) := by
  show (bif keyOK 2 _ then findK _ _ 0 else none) = _
  have : keyOK 2 (.agg [.int .i64 a, .int .i64 b]) = true := rfl
  rw [this]; exact findK_two m 0
theorem fx_some : ∀ {m : List ME} {k i s : Nat} {v : Int}, fx a b m k = some (i, v, s) → k ≤ i ∧ m[i - k]? = some ⟨a, b, v, s⟩
  | [], _, _, _, _, e => by cases e
  | x :: m, k, i, s, v, e => by
    unfold fx at e
    split at e
    · rename_i c
      cases e
      obtain ⟨rfl, rfl⟩ := c
      simp
    · obtain ⟨h1, h2⟩ := fx_some e
      refine ⟨by omega, ?_⟩
      rw [show i - k = (i - (k + 1)) + 1 by omega]
      simpa using h2
theorem fx_none : ∀ {m : List ME} {k : Nat}, fx a b m k = none → ∀ e ∈ m, ¬ (e.a = a ∧ e.b = b)
  | [], _, _ => fun e he => by cases he
  | x :: m, k, e => by
    unfold fx at e
    split at e
    · cases e
    · rename_i c
      intro y hy
      rcases List.mem_cons.1 hy with rfl | hy
      · exact c
      · exact fx_none e y hy
/-- The value by a key that is known to be there. -/
theorem fx_mem : ∀ {m : List ME}, m.Pairwise (fun x y => ¬ (x.a = y.a ∧ x.b = y.b)) → ∀ {e : ME}, e ∈ m → ∀ k, ∃ i, fx e.a e.b m k = some (i, e.v, e.s)
  | [], _, _, he, _ => by cases he
  | x :: m, hp, e, he, k => by
    rw [List.pairwise_cons] at hp
    unfold fx
    rcases List.mem_cons.1 he with rfl | he
    · exact ⟨k, by simp⟩
    · have := hp.1 e he
      rw [if_neg this]
      exact fx_mem hp.2 he (k + 1)
theorem mget_mem {m : List ME} (hm : m.Pairwise fun x y => ¬ (x.a = y.a ∧ x.b = y.b)) {e : ME} (he : e ∈ m) : mget m e.a e.b = e.v := by
  obtain ⟨i, h⟩ := fx_mem hm he 0
  unfold mget; rw [h]
theorem mget_no {m : List ME} (hm : ∀ e ∈ m, ¬ (e.a = a ∧ e.b = b)) : mget m a b = 0 := by
  unfold mget
  cases h : fx a b m 0 with
  | none => rfl
  | some p =>
    obtain ⟨i, v, s⟩ := p
    obtain ⟨_, h2⟩ := fx_some h
    exact absurd ⟨rfl, rfl⟩ (hm _ (List.mem_of_getElem? h2))
/-- Where a key is: at an entry, or nowhere. -/
theorem mget_cases (m : List ME) (a b : Int) : (∃ e ∈ m, e.a = a ∧ e.b = b) ∨ ∀ e ∈ m, ¬ (e.a = a ∧ e.b = b) := by
  by_cases h : ∃ e ∈ m, e.a = a ∧ e.b = b
  · exact .inl h
  · exact .inr fun e he hc => h ⟨e, he, hc⟩

/-! The forms of the operations. -/
def lkO (h : T AObj) (n fl kn : Nat) (zero : AV) (ok : Bool) (m k : Option AV) : Option (AV × AS) :=
  match m, k with
  | some m, some k => (lookIn kn ⟨h, n, fl⟩ m k).map fun r => (lookOut zero ok r, ⟨h, n, fl⟩)
  | _, _ => none
theorem lookup_E {kn : Nat} {zero : AV} {m k : AOpd} {ok : Bool} : op_lookup kn zero m k ok tm ⟨h, n, fl⟩ = lkO h n fl kn zero ok (opd m tm) (opd k tm) := by
  show (opd m tm).bind _ = _
  cases opd m tm with
  | none => rfl
  | some x => show (opd k tm).bind _ = _; cases opd k tm <;> rfl
def lkF (h : T AObj) (n fl kn : Nat) (zero : AV) (ok : Bool) (k : AV) (x : Option AObj) : Option (AV × AS) :=
  match x with
  | some (.map es _) => (findKk kn k es).map fun r => (lookOut zero ok r, ⟨h, n, fl⟩)
  | _ => none
theorem lkO_s {kn : Nat} {zero k : AV} {ok : Bool} : lkO h n fl kn zero ok (some (.map (some r))) (some k) = lkF h n fl kn zero ok k (h.get r) := by
  show ((match h.get r with | some (.map es _) => findKk kn k es | _ => none : Option _).map fun r => (lookOut zero ok r, (⟨h, n, fl⟩ : AS))) = _
  unfold lkF
  cases h.get r with
  | none => rfl
  | some o => cases o <;> rfl
theorem lkF_two {m : List ME} : lkF h n fl 2 (.int .i64 0) false (.agg [.int .i64 a, .int .i64 b]) (some (mobj m cl)) = some (.int .i64 (mget m a b), ⟨h, n, fl⟩) := by
  show ((findKk 2 (.agg [.int .i64 a, .int .i64 b]) (m.map ME.enc)).map fun r => (lookOut (.int .i64 0) false r, (⟨h, n, fl⟩ : AS))) = _
  rw [findKk_two]
  unfold mget
  cases fx a b m 0 <;> rfl

/-- With a place for a key. -/
def mins (m : List ME) (a b : Int) (cl : Nat) : List ME :=
  match fx a b m 0 with
  | some _ => m
  | none => m ++ [⟨a, b, 0, cl⟩]
def mcl (m : List ME) (a b : Int) (cl : Nat) : Nat :=
  match fx a b m 0 with
  | some _ => cl
  | none => cl + 1
def mborn (m : List ME) (a b : Int) (cl : Nat) : Nat :=
  match fx a b m 0 with
  | some (_, _, s) => s
  | none => cl
def enO (h : T AObj) (n fl kn : Nat) (zero : AV) (m k : Option AV) : Option (AV × AS) :=
  match m, k with
  | some (.map (some r)), some k => bif !Nat.ble fl r then none else
      match h.get r with
      | some (.map es cl) => (findKk kn k es).map fun
        | some (i, v, s) => (.tup [v, .int .i64 s], ⟨h.put r (some (.map (es.set i (k, v, s)) cl)), n, fl⟩)
        | none => (.tup [zero, .int .i64 cl], ⟨h.put r (some (.map (es ++ [(k, zero, cl)]) (cl + 1))), n, fl⟩)
      | _ => none
  | _, _ => none
theorem mapEntry_E {kn : Nat} {zero : AV} {m k : AOpd} : op_mapEntry kn zero m k tm ⟨h, n, fl⟩ = enO h n fl kn zero (opd m tm) (opd k tm) := by
  show (opd m tm).bind _ = _
  cases opd m tm with
  | none => rfl
  | some x =>
    show (opd k tm).bind _ = _
    cases opd k tm with
    | none => cases x <;> first | rfl | (rename_i p; cases p <;> rfl)
    | some y => cases x <;> first | rfl | (rename_i p; cases p <;> rfl)
def enF (h : T AObj) (n fl kn : Nat) (zero : AV) (r : Nat) (k : AV) (x : Option AObj) : Option (AV × AS) :=
  bif !Nat.ble fl r then none else
      match x with
      | some (.map es cl) => (findKk kn k es).map fun
        | some (i, v, s) => (.tup [v, .int .i64 s], ⟨h.put r (some (.map (es.set i (k, v, s)) cl)), n, fl⟩)
        | none => (.tup [zero, .int .i64 cl], ⟨h.put r (some (.map (es ++ [(k, zero, cl)]) (cl + 1))), n, fl⟩)
      | _ => none
theorem enO_s {kn : Nat} {zero k : AV} : enO h n fl kn zero (some (.map (some r))) (some k) = enF h n fl kn zero r k (h.get r) := rfl
theorem set_same {α : Type} : ∀ {l : List α} {i : Nat} {x : α}, l[i]? = some x → l.set i x = l
  | [], _, _, h => by simp at h
  | y :: l, 0, x, h => by simp at h; subst h; rfl
  | y :: l, i + 1, x, h => by simp at h; simp [set_same h]
theorem enF_two {m : List ME} : enF h n fl 2 (.int .i64 0) r (.agg [.int .i64 a, .int .i64 b]) (some (mobj m cl)) =
    bif decide (fl ≤ r) then some (.tup [.int .i64 (mget m a b), .int .i64 (mborn m a b cl)], ⟨h.put r (some (mobj (mins m a b cl) (mcl m a b cl))), n, fl⟩) else none := by
  unfold enF
  rw [ble_dec]
  by_cases hf : fl ≤ r
  · simp only [hf, decide_true, Bool.not_true, cond_false, cond_true]
    show ((findKk 2 (.agg [.int .i64 a, .int .i64 b]) (m.map ME.enc)).map _) = _
    rw [findKk_two]
    unfold mget mborn mins mcl
    cases e : fx a b m 0 with
    | none => simp [mobj, ME.enc]
    | some p =>
      obtain ⟨i, v, s⟩ := p
      obtain ⟨_, h2⟩ := fx_some e
      have h3 : (m.map ME.enc)[i]? = some (.agg [.int .i64 a, .int .i64 b], .int .i64 v, s) := by rw [List.getElem?_map, show m[i]? = some ⟨a, b, v, s⟩ by simpa using h2]; rfl
      simp only [Option.map_some, set_same h3]; rfl
  · simp [hf]

/-- With another value. -/
def mset (m : List ME) (s : Nat) (v : Int) : List ME := m.map fun e => if e.s = s then { e with v := v } else e
def esO (h : T AObj) (n fl : Nat) (m s v : Option AV) : Option (AV × AS) :=
  match m, s, v with
  | some (.map (some r)), some (.int _ s), some v => bif !Nat.ble fl r then none else
      match h.get r with
      | some (.map es cl) => (findS s es 0).bind fun i => es[i]?.map fun (k, _, b) => (.tup [], ⟨h.put r (some (.map (es.set i (k, v, b)) cl)), n, fl⟩)
      | _ => none
  | _, _, _ => none
theorem entryStore_E {m s v : AOpd} : op_entryStore m s v tm ⟨h, n, fl⟩ = esO h n fl (opd m tm) (opd s tm) (opd v tm) := by
  show (opd m tm).bind _ = _
  cases opd m tm with
  | none => rfl
  | some x =>
    show (opd s tm).bind _ = _
    cases opd s tm with
    | none => cases x <;> first | rfl | (rename_i p; cases p <;> rfl)
    | some y =>
      show (opd v tm).bind _ = _
      cases opd v tm with
      | none => cases x <;> first | rfl | (rename_i p; cases p <;> first | rfl | (cases y <;> rfl))
      | some z => cases x <;> first | rfl | (rename_i p; cases p <;> first | rfl | (cases y <;> rfl))
def esF (h : T AObj) (n fl r : Nat) (s : Int) (v : AV) (x : Option AObj) : Option (AV × AS) :=
  bif !Nat.ble fl r then none else
      match x with
      | some (.map es cl) => (findS s es 0).bind fun i => es[i]?.map fun (k, _, b) => (.tup [], ⟨h.put r (some (.map (es.set i (k, v, b)) cl)), n, fl⟩)
      | _ => none
theorem esO_s {k : IntKind} {s : Int} {u : AV} : esO h n fl (some (.map (some r))) (some (.int k s)) (some u) = esF h n fl r s u (h.get r) := rfl
theorem findS_two {s : Nat} : ∀ {m : List ME} {k : Nat}, m.Pairwise (fun x y => x.s ≠ y.s) → (∃ e ∈ m, e.s = s) → ∃ i e, findS (s : Int) (m.map ME.enc) k = some (k + i) ∧ m[i]? = some e ∧ e.s = s ∧ ∀ v, (m.map ME.enc).set i (.agg [.int .i64 e.a, .int .i64 e.b], .int .i64 v, s) = (mset m s v).map ME.enc
  | [], _, _, ⟨e, he, _⟩ => by cases he
  | x :: m, k, hp, ⟨e, he, hs⟩ => by
    rw [List.pairwise_cons] at hp
    by_cases c : x.s = s
    · refine ⟨0, x, ?_, rfl, c, fun v => ?_⟩
      · show (bif decide ((x.s : Int) = s) then _ else _) = _
        simp [c]
      · have : mset m s v = m := by
          unfold mset
          conv => rhs; rw [← List.map_id m]
          exact List.map_congr_left fun y hy => by simp [show ¬ y.s = s from fun h => hp.1 y hy (by rw [c, h])]
        show _ :: _ = ((if x.s = s then ({ x with v := v } : ME) else x) :: mset m s v).map ME.enc
        rw [if_pos c, this]
        simp [ME.enc, c]
    · have he' : e ∈ m := by
        rcases List.mem_cons.1 he with rfl | he
        · exact absurd hs c
        · exact he
      obtain ⟨i, e2, h1, h2, h3, h4⟩ := findS_two (k := k + 1) hp.2 ⟨e, he', hs⟩
      refine ⟨i + 1, e2, ?_, by simpa using h2, h3, fun v => ?_⟩
      · show (bif decide ((x.s : Int) = s) then _ else findS (s : Int) (m.map ME.enc) (k + 1)) = _
        have : ¬ (x.s : Int) = s := by omega
        simp only [this, decide_false, cond_false, h1]
        congr 1; omega
      · show ME.enc x :: (m.map ME.enc).set i _ = ((if x.s = s then ({ x with v := v } : ME) else x) :: mset m s v).map ME.enc
        rw [if_neg c, h4 v]; rfl
theorem esF_two {m : List ME} {s : Nat} (hp : m.Pairwise fun x y => x.s ≠ y.s) (he : ∃ e ∈ m, e.s = s) (hf : fl ≤ r) : esF h n fl r (s : Int) (.int .i64 v) (some (mobj m cl)) = some (.tup [], ⟨h.put r (some (mobj (mset m s v) cl)), n, fl⟩) := by
  unfold esF
  rw [ble_dec]
  simp only [hf, decide_true, Bool.not_true, cond_false]
  obtain ⟨i, e, h1, h2, h3, h4⟩ := findS_two (k := 0) hp he
  show ((findS (s : Int) (m.map ME.enc) 0).bind _) = _
  rw [h1]
  have h5 : (m.map ME.enc)[0 + i]? = some (ME.enc e) := by rw [Nat.zero_add, List.getElem?_map, h2]; rfl
  simp only [Option.bind_some, h5, Option.map_some]
  show some (AV.tup [], (⟨h.put r (some (.map ((m.map ME.enc).set (0 + i) (.agg [.int .i64 e.a, .int .i64 e.b], .int .i64 v, e.s)) cl)), n, fl⟩ : AS)) = _
  rw [Nat.zero_add, h3, h4]; rfl

/-- Without a key. -/
def mdel (m : List ME) (a b : Int) : List ME :=
  match fx a b m 0 with
  | some (i, _, _) => m.eraseIdx i
  | none => m
def deO (h : T AObj) (n fl kn : Nat) (m k : Option AV) : Option (AV × AS) :=
  match m, k with
  | some (.map (some r)), some k => bif !Nat.ble fl r then none else
      match h.get r with
      | some (.map es cl) => (findKk kn k es).map fun
        | some (i, _, _) => (.tup [], ⟨h.put r (some (.map (es.eraseIdx i) cl)), n, fl⟩)
        | none => (.tup [], ⟨h, n, fl⟩)
      | _ => none
  | _, _ => none
theorem delete_E {kn : Nat} {m k : AOpd} : op_delete kn m k tm ⟨h, n, fl⟩ = deO h n fl kn (opd m tm) (opd k tm) := by
  show (opd m tm).bind _ = _
  cases opd m tm with
  | none => rfl
  | some x =>
    show (opd k tm).bind _ = _
    cases opd k tm with
    | none => cases x <;> first | rfl | (rename_i p; cases p <;> rfl)
    | some y => cases x <;> first | rfl | (rename_i p; cases p <;> rfl)
def deF (h : T AObj) (n fl kn r : Nat) (k : AV) (x : Option AObj) : Option (AV × AS) :=
  bif !Nat.ble fl r then none else
      match x with
      | some (.map es cl) => (findKk kn k es).map fun
        | some (i, _, _) => (.tup [], ⟨h.put r (some (.map (es.eraseIdx i) cl)), n, fl⟩)
        | none => (.tup [], ⟨h, n, fl⟩)
      | _ => none
theorem deO_s {kn : Nat} {k : AV} : deO h n fl kn (some (.map (some r))) (some k) = deF h n fl kn r k (h.get r) := rfl
theorem erase_map {α β : Type} (f : α → β) : ∀ (l : List α) (i : Nat), (l.map f).eraseIdx i = (l.eraseIdx i).map f
  | [], _ => rfl
  | _ :: _, 0 => rfl
  | x :: l, i + 1 => by
    show f x :: (l.map f).eraseIdx i = f x :: (l.eraseIdx i).map f
    rw [erase_map f l i]
/-- A deletion: the map without the key. (Where it was not there memory is left as it was; written anew it is the same.) -/
theorem deF_two {m : List ME} : deF h n fl 2 r (.agg [.int .i64 a, .int .i64 b]) (some (mobj m cl)) =
    bif decide (fl ≤ r) then some (.tup [], (match fx a b m 0 with | some _ => ⟨h.put r (some (mobj (mdel m a b) cl)), n, fl⟩ | none => ⟨h, n, fl⟩)) else none := by
  unfold deF
  rw [ble_dec]
  by_cases hf : fl ≤ r
  · simp only [hf, decide_true, Bool.not_true, cond_false, cond_true]
    show ((findKk 2 (.agg [.int .i64 a, .int .i64 b]) (m.map ME.enc)).map _) = _
    rw [findKk_two]
    unfold mdel
    cases e : fx a b m 0 with
    | none => rfl
    | some p =>
      obtain ⟨i, v, s⟩ := p
      simp only [Option.map_some, mobj]
      rw [erase_map]
  · simp [hf]
/-! What the operations leave. -/
theorem pair_mem {α : Type} {R : α → α → Prop} (hs : ∀ x y, R x y → R y x) : ∀ {l : List α}, l.Pairwise R → ∀ {x y : α}, x ∈ l → y ∈ l → x = y ∨ R x y
  | [], _, _, _, h, _ => by cases h
  | z :: l, hp, x, y, hx, hy => by
    rw [List.pairwise_cons] at hp
    rcases List.mem_cons.1 hx with rfl | hx'
    · rcases List.mem_cons.1 hy with rfl | hy'
      · exact .inl rfl
      · exact .inr (hp.1 y hy')
    · rcases List.mem_cons.1 hy with rfl | hy'
      · exact .inr (hs _ _ (hp.1 x hx'))
      · exact pair_mem hs hp.2 hx' hy'
def ME.upd (s : Nat) (v : Int) (e : ME) : ME := if e.s = s then { e with v := v } else e
theorem upd_key {s : Nat} {v : Int} (e : ME) : (e.upd s v).a = e.a ∧ (e.upd s v).b = e.b ∧ (e.upd s v).s = e.s := by unfold ME.upd; split <;> simp
theorem mset_ok {m : List ME} {cl s : Nat} {v : Int} (hm : MOK m cl) : MOK (mset m s v) cl where
  born e he := by
    obtain ⟨x, hx, rfl⟩ := List.mem_map.1 he
    have := (upd_key (s := s) (v := v) x).2.2
    unfold ME.upd at this
    rw [this]; exact hm.born x hx
  bapart := by
    unfold mset
    rw [List.pairwise_map]
    exact hm.bapart.imp fun {x y} h => by
      have h1 := (upd_key (s := s) (v := v) x).2.2
      have h2 := (upd_key (s := s) (v := v) y).2.2
      unfold ME.upd at h1 h2
      rw [h1, h2]; exact h
  kapart := by
    unfold mset
    rw [List.pairwise_map]
    exact hm.kapart.imp fun {x y} h => by
      have h1 := (upd_key (s := s) (v := v) x)
      have h2 := (upd_key (s := s) (v := v) y)
      unfold ME.upd at h1 h2
      rw [h1.1, h1.2.1, h2.1, h2.2.1]; exact h
/-- The entry of a key. -/
theorem fx_here {m : List ME} {i s : Nat} {v : Int} (h : fx a b m 0 = some (i, v, s)) : ⟨a, b, v, s⟩ ∈ m := by
  obtain ⟨_, h2⟩ := fx_some h
  exact List.mem_of_getElem? h2
theorem mget_set {m : List ME} (hm : MOK m cl) {e : ME} (he : e ∈ m) (v : Int) (c d : Int) : mget (mset m e.s v) c d = if c = e.a ∧ d = e.b then v else mget m c d := by
  have hk := (mset_ok (s := e.s) (v := v) hm).kapart
  rcases mget_cases m c d with ⟨x, hx, rfl, rfl⟩ | hno
  · have hx' : (x.upd e.s v) ∈ mset m e.s v := List.mem_map.2 ⟨x, hx, rfl⟩
    have h1 := mget_mem hk hx'
    rw [(upd_key x).1, (upd_key x).2.1] at h1
    rw [h1]
    by_cases c : x.a = e.a ∧ x.b = e.b
    · rw [if_pos c]
      rcases pair_mem (fun x y h => fun k => h ⟨k.1.symm, k.2.symm⟩) hm.kapart hx he with rfl | h
      · unfold ME.upd; simp
      · exact absurd c h
    · rw [if_neg c, mget_mem hm.kapart hx]
      rcases pair_mem (fun x y h => Ne.symm h) hm.bapart hx he with rfl | h
      · exact absurd ⟨rfl, rfl⟩ c
      · unfold ME.upd; rw [if_neg h]
  · rw [mget_no hno, mget_no (fun y hy => ?_), if_neg]
    · intro ⟨h1, h2⟩; exact hno e he ⟨h1.symm, h2.symm⟩
    · obtain ⟨x, hx, rfl⟩ := List.mem_map.1 hy
      have := upd_key (s := e.s) (v := v) x
      unfold ME.upd at this
      rw [this.1, this.2.1]; exact hno x hx
theorem mins_ok {m : List ME} (hm : MOK m cl) : MOK (mins m a b cl) (mcl m a b cl) ∧ (∃ e ∈ mins m a b cl, e.s = mborn m a b cl ∧ e.a = a ∧ e.b = b) ∧ ∀ c d, mget (mins m a b cl) c d = mget m c d := by
  unfold mins mcl mborn
  cases h : fx a b m 0 with
  | some p =>
    obtain ⟨i, v, s⟩ := p
    exact ⟨hm, ⟨_, fx_here h, rfl, rfl, rfl⟩, fun _ _ => rfl⟩
  | none =>
    have hno := fx_none h
    refine ⟨⟨fun e he => ?_, ?_, ?_⟩, ⟨⟨a, b, 0, cl⟩, by simp, rfl, rfl, rfl⟩, fun c d => ?_⟩
    · show e.s < cl + 1
      rcases List.mem_append.1 he with he | he
      · have := hm.born e he; omega
      · simp at he; subst he; simp
    · rw [List.pairwise_append]
      exact ⟨hm.bapart, by simp, fun x hx y hy => by simp at hy; subst hy; have := hm.born x hx; show x.s ≠ cl; omega⟩
    · rw [List.pairwise_append]
      exact ⟨hm.kapart, by simp, fun x hx y hy => by simp at hy; subst hy; exact hno x hx⟩
    · have hk : (m ++ [(⟨a, b, 0, cl⟩ : ME)]).Pairwise fun x y : ME => ¬ (x.a = y.a ∧ x.b = y.b) := by
        rw [List.pairwise_append]
        exact ⟨hm.kapart, by simp, fun x hx y hy => by simp at hy; subst hy; exact hno x hx⟩
      rcases mget_cases m c d with ⟨x, hx, rfl, rfl⟩ | hn
      · rw [mget_mem hm.kapart hx, mget_mem hk (List.mem_append_left _ hx)]
      · rw [mget_no hn]
        by_cases e : a = c ∧ b = d
        · obtain ⟨rfl, rfl⟩ := e
          exact mget_mem hk (e := ⟨a, b, 0, cl⟩) (by simp)
        · exact mget_no fun y hy => by
            rcases List.mem_append.1 hy with hy | hy
            · exact hn y hy
            · simp at hy; subst hy; exact e
/-- A value stored by a key. -/
def mput (m : List ME) (a b v : Int) (cl : Nat) : List ME := mset (mins m a b cl) (mborn m a b cl) v
theorem mput_ok {m : List ME} (hm : MOK m cl) : MOK (mput m a b v cl) (mcl m a b cl) := mset_ok (mins_ok hm).1
theorem mget_put {m : List ME} (hm : MOK m cl) (c d : Int) : mget (mput m a b v cl) c d = if c = a ∧ d = b then v else mget m c d := by
  obtain ⟨h1, ⟨e, he, h2, rfl, rfl⟩, h3⟩ := mins_ok (a := a) (b := b) hm
  unfold mput
  rw [← h2, mget_set h1 he, h3]
theorem esF_put {m : List ME} (hm : MOK m cl) (hf : fl ≤ r) : esF h n fl r (mborn m a b cl : Nat) (.int .i64 v) (some (mobj (mins m a b cl) (mcl m a b cl))) = some (.tup [], ⟨h.put r (some (mobj (mput m a b v cl) (mcl m a b cl))), n, fl⟩) := by
  obtain ⟨h1, ⟨e, he, h2, _⟩, _⟩ := mins_ok (a := a) (b := b) hm
  exact esF_two h1.bapart ⟨e, he, h2⟩ hf
theorem pair_erase {α : Type} {R : α → α → Prop} {l : List α} (hp : l.Pairwise R) (i : Nat) : (l.eraseIdx i).Pairwise R := hp.sublist (List.eraseIdx_sublist l i)
theorem mem_erase {α : Type} : ∀ {l : List α} {i : Nat} {x : α}, x ∈ l → x ∈ l.eraseIdx i ∨ l[i]? = some x
  | [], _, _, h => by cases h
  | y :: l, 0, x, h => by
    rcases List.mem_cons.1 h with rfl | h
    · exact .inr rfl
    · exact .inl h
  | y :: l, i + 1, x, h => by
    rcases List.mem_cons.1 h with rfl | h
    · exact .inl (by simp)
    · rcases mem_erase (i := i) h with h | h
      · exact .inl (by simp [h])
      · exact .inr (by simpa using h)
theorem mdel_ok {m : List ME} (hm : MOK m cl) : MOK (mdel m a b) cl := by
  unfold mdel
  cases h : fx a b m 0 with
  | none => exact hm
  | some p => exact ⟨fun e he => hm.born e ((List.eraseIdx_sublist m p.1).subset he), pair_erase hm.bapart _, pair_erase hm.kapart _⟩
theorem mget_del {m : List ME} (hm : MOK m cl) (c d : Int) : mget (mdel m a b) c d = if c = a ∧ d = b then 0 else mget m c d := by
  have hok := mdel_ok (a := a) (b := b) hm
  unfold mdel at hok ⊢
  cases h : fx a b m 0 with
  | none =>
    by_cases e : c = a ∧ d = b
    · rw [if_pos e, e.1, e.2]; exact mget_no (fx_none h)
    · rw [if_neg e]
  | some p =>
    obtain ⟨i, v, s⟩ := p
    obtain ⟨_, h2⟩ := fx_some h
    have h2 : m[i]? = some ⟨a, b, v, s⟩ := by simpa using h2
    rw [h] at hok
    dsimp only at hok ⊢
    by_cases e : c = a ∧ d = b
    · obtain ⟨rfl, rfl⟩ := e
      rw [if_pos ⟨rfl, rfl⟩]
      refine mget_no fun x hx hxk => ?_
      have hlt := (List.getElem?_eq_some_iff.1 h2).1
      have hm1 : x ∈ m := (List.eraseIdx_sublist m i).subset hx
      rcases pair_mem (fun x y h => Ne.symm h) hm.bapart hm1 (List.mem_of_getElem? h2) with rfl | hne
      · -- the entry itself lies but once
        have : (m.map ME.s).Nodup := List.pairwise_map.2 hm.bapart
        have h4 : m.eraseIdx i = m.take i ++ m.drop (i + 1) := List.eraseIdx_eq_take_drop_succ m i
        have h5 : m = m.take i ++ (⟨c, d, v, s⟩ : ME) :: m.drop (i + 1) := by
          conv => lhs; rw [← List.take_append_drop i m]
          rw [List.drop_eq_getElem_cons hlt, (List.getElem?_eq_some_iff.1 h2).2]
        rw [h4] at hx
        rw [h5, List.map_append, List.map_cons] at this
        have hb := List.nodup_append.1 this
        rcases List.mem_append.1 hx with hx | hx
        · exact hb.2.2 _ (List.mem_map.2 ⟨_, hx, rfl⟩) _ (by simp) rfl
        · have := (List.nodup_cons.1 hb.2.1).1
          exact this (List.mem_map.2 ⟨_, hx, rfl⟩)
      · rcases pair_mem (fun x y h => fun k => h ⟨k.1.symm, k.2.symm⟩) hm.kapart hm1 (List.mem_of_getElem? h2) with rfl | hk
        · exact hne rfl
        · exact hk hxk
    · rw [if_neg e]
      rcases mget_cases m c d with ⟨x, hx, rfl, rfl⟩ | hn
      · rcases mem_erase (i := i) hx with hx' | hx'
        · rw [mget_mem hok.kapart hx', mget_mem hm.kapart hx]
        · rw [h2] at hx'; cases hx'; exact absurd ⟨rfl, rfl⟩ e
      · rw [mget_no hn, mget_no fun y hy => hn y ((List.eraseIdx_sublist m i).subset hy)]
/-- A deletion, told as one. -/
theorem deF_del {m : List ME} (hg : h.get r = some (mobj m cl)) (hf : fl ≤ r) : ∃ h', deF h n fl 2 r (.agg [.int .i64 a, .int .i64 b]) (some (mobj m cl)) = some (.tup [], ⟨h', n, fl⟩) ∧ h'.get r = some (mobj (mdel m a b) cl) ∧ ∀ x, x ≠ r → h'.get x = h.get x := by
  rw [deF_two]
  simp only [hf, decide_true, cond_true]
  cases e : fx a b m 0 with
  | none =>
    refine ⟨h, rfl, ?_, fun _ _ => rfl⟩
    rw [hg]; unfold mdel; rw [e]
  | some p => exact ⟨_, rfl, hget_eq, fun x hx => hget_ne hx⟩
end
end Go.AM
/- Lists that grow. -/
namespace Go.AM
open Go
noncomputable section
variable {ft : T AFunc} {O : Ora} {tm : T AV} {σ σ' : AS} {h h' : T AObj} {n n' fl : Nat} {v : AV}

def blkOf : AV → Option Nat
  | .slc (some (b, _)) _ _ _ _ => some b
  | _ => none
/-- A list of the function's own, that lies alone in its block, full: so many elements of these cells. -/
structure GrowSl (h : T AObj) (et esz : Nat) (s : AV) (len : Nat) (cs : List AV) : Prop where
  here : (∃ et', s = .slc none len len et' .exact ∧ len = 0 ∧ cs = []) ∨ ∃ b ck, s = .slc (some (b, 0)) len len et ck ∧ ck ≠ .opaq ∧ h.get b = some (.cells cs false)
  size : cs.length = len * esz
  sc : cs.all AV.scalar = true
theorem rd_whole {cs : List AV} {k : Nat} (e : cs.length = k) : rd cs 0 k = some cs := by
  rw [rd_E]
  simp [e]
  rw [← e, List.take_length]
theorem GrowSl.append {et esz bytes len k bx ox c e : Nat} {s : AV} {cs new : List AV} {ck : CK} (hg : GrowSl h et esz s len cs) (hfl : ∀ b, blkOf s = some b → fl ≤ b) (hf : Fresh h n)
    (hx : rdk (h.get bx) ox (k * esz) = some new) (hk : 0 < k) (hsz : (len + k) * bytes ≤ 70368744177664) (hn : new.length = k * esz) (hsc : new.all AV.scalar = true) :
    ∃ h', appendV ⟨h, n, fl⟩ et esz bytes s (.slc (some (bx, ox)) k c e ck) = some (.slc (some (n, 0)) (len + k) (len + k) et .tail, ⟨h', n + 1, fl⟩) ∧
      GrowSl h' et esz (.slc (some (n, 0)) (len + k) (len + k) et .tail) (len + k) (cs ++ new) ∧ Fresh h' (n + 1) ∧ ∀ x, x ≠ n → blkOf s ≠ some x → h'.get x = h.get x := by
  have hall : (cs.all AV.scalar && new.all AV.scalar) = true := by rw [hg.sc, hsc]; rfl
  have hb1 : Nat.ble ((len + k) * bytes) 70368744177664 = true := Nat.ble_eq_true_of_le hsz
  have hb2 : Nat.ble (len * bytes) 70368744177664 = true := Nat.ble_eq_true_of_le (Nat.le_trans (Nat.mul_le_mul_right _ (by omega)) hsz)
  have hb3 : Nat.ble (len + k) len = false := by rw [ble_dec]; simp; omega
  have hsrc : srcCells ⟨h, n, fl⟩ esz (.slc (some (bx, ox)) k c e ck) = some (k, new) := by
    show (AS.readN ⟨h, n, fl⟩ bx ox (k * esz)).map _ = _
    rw [readN_mk, hx]; rfl
  have hgrow : ∀ (h2 : T AObj), (∀ x, blkOf s ≠ some x → h2.get x = h.get x) → (∀ x c, h2.get x = some c → ∃ c, h.get x = some c) →
      GrowSl (h2.put n (some (.cells (cs ++ new) false))) et esz (.slc (some (n, 0)) (len + k) (len + k) et .tail) (len + k) (cs ++ new) ∧ Fresh (h2.put n (some (.cells (cs ++ new) false))) (n + 1) ∧
        ∀ x, x ≠ n → blkOf s ≠ some x → (h2.put n (some (.cells (cs ++ new) false))).get x = h.get x := fun h2 hk2 hs2 =>
    ⟨⟨.inr ⟨n, .tail, rfl, by simp, hget_eq⟩, by rw [List.length_append, hg.size, hn, Nat.add_mul], by rw [List.all_append]; exact hall⟩,
      fun x c hc => by
        rw [hget_put] at hc
        split at hc
        · omega
        · obtain ⟨c', hc'⟩ := hs2 x c hc
          have := hf x c' hc'; omega,
      fun x hx hs => by rw [hget_ne hx]; exact hk2 x hs⟩
  rcases hg.here with ⟨et', rfl, rfl, rfl⟩ | ⟨b, ck2, rfl, hck, hb⟩
  · refine ⟨h.put n (some (.cells ([] ++ new) false)), ?_, hgrow h (fun _ _ => rfl) (fun x c hc => ⟨c, hc⟩)⟩
    show (bif !(Nat.beq et et' || true) then none else (srcCells ⟨h, n, fl⟩ esz (.slc (some (bx, ox)) k c e ck)).bind _) = _
    rw [Bool.or_true, hsrc]
    show (bif !Nat.ble ((0 + k) * bytes) 70368744177664 then none else bif Nat.ble (0 + k) 0 then _ else (some ([] : List AV)).bind _) = _
    rw [hb1, hb3]
    show (bif !(Nat.ble (0 * bytes) 70368744177664) then none else bif !(([] : List AV).all AV.scalar && new.all AV.scalar) then none else _) = _
    rw [hb2, hall]; rfl
  · have hflb : Nat.ble fl b = true := Nat.ble_eq_true_of_le (hfl b rfl)
    cases ck2 with
    | opaq => exact absurd rfl hck
    | exact =>
      refine ⟨h.put n (some (.cells (cs ++ new) false)), ?_, hgrow h (fun _ _ => rfl) (fun x c hc => ⟨c, hc⟩)⟩
      show (bif !(Nat.beq et et || false) then none else (srcCells ⟨h, n, fl⟩ esz (.slc (some (bx, ox)) k c e ck)).bind _) = _
      rw [Nat.beq_refl, hsrc]
      show (bif !Nat.ble ((len + k) * bytes) 70368744177664 then none else bif Nat.ble (len + k) len then _ else (AS.readN ⟨h, n, fl⟩ b 0 (len * esz)).bind _) = _
      rw [hb1, hb3, readN_mk, hb, rdk_s, rd_whole hg.size]
      show (bif !(Nat.ble (len * bytes) 70368744177664) then none else bif !(cs.all AV.scalar && new.all AV.scalar) then none else _) = _
      rw [hb2, hall]; rfl
    | tail =>
      refine ⟨(h.put b none).put n (some (.cells (cs ++ new) false)), ?_, hgrow (h.put b none) (fun x hx => hget_ne fun e => hx (by rw [e]; rfl)) (fun x c hc => by
        rw [hget_put] at hc
        split at hc
        · cases hc
        · exact ⟨c, hc⟩)⟩
      show (bif !(Nat.beq et et || false) then none else (srcCells ⟨h, n, fl⟩ esz (.slc (some (bx, ox)) k c e ck)).bind _) = _
      rw [Nat.beq_refl, hsrc]
      show (bif !Nat.ble ((len + k) * bytes) 70368744177664 then none else bif Nat.ble (len + k) len then _ else (match h.get b with | some (.cells c false) => (bif !(Nat.ble fl b && Nat.beq (0 + len * esz) c.length) then none else (rd c 0 (len * esz)).bind fun old => (bif !(old.all AV.scalar && new.all AV.scalar) then none else some (AV.slc (some (n, 0)) (len + k) (len + k) et .tail, AS.alloc ⟨h.put b none, n, fl⟩ (.cells (old ++ new) false)))) | _ => none : Option (AV × AS))) = _
      rw [hb1, hb3, hb]
      show (bif !(Nat.ble fl b && Nat.beq (0 + len * esz) cs.length) then none else (rd cs 0 (len * esz)).bind _) = _
      rw [hflb, rd_whole hg.size, hg.size, Nat.zero_add, Nat.beq_refl]
      show (bif !(cs.all AV.scalar && new.all AV.scalar) then none else _) = _
      rw [hall]; rfl
theorem GrowSl.nil {et esz et' : Nat} : GrowSl h et esz (.slc none 0 0 et' .exact) 0 [] := ⟨.inl ⟨et', rfl, rfl, rfl⟩, by simp, rfl⟩
theorem GrowSl.put {et esz len b : Nat} {s : AV} {cs : List AV} {o : Option AObj} (hg : GrowSl h et esz s len cs) (hb : blkOf s ≠ some b) : GrowSl (h.put b o) et esz s len cs := by
  refine ⟨?_, hg.size, hg.sc⟩
  rcases hg.here with h1 | ⟨b2, ck, rfl, h2, h3⟩
  · exact .inl h1
  · exact .inr ⟨b2, ck, rfl, h2, by rw [hget_ne (fun e => hb (by rw [← e]; rfl))]; exact h3⟩
theorem GrowSl.keep {et esz len : Nat} {s : AV} {cs : List AV} (hg : GrowSl h et esz s len cs) (hk : ∀ b, blkOf s = some b → h'.get b = h.get b) : GrowSl h' et esz s len cs := by
  refine ⟨?_, hg.size, hg.sc⟩
  rcases hg.here with h1 | ⟨b2, ck, rfl, h2, h3⟩
  · exact .inl h1
  · exact .inr ⟨b2, ck, rfl, h2, by rw [hk b2 rfl]; exact h3⟩
theorem GrowSl.lt {et esz len b : Nat} {s : AV} {cs : List AV} (hg : GrowSl h et esz s len cs) (hf : Fresh h n) (hb : blkOf s = some b) : b < n := by
  rcases hg.here with ⟨_, rfl, _⟩ | ⟨b2, ck, rfl, h2, h3⟩
  · cases hb
  · cases hb; exact hf _ _ h3
/-- What is read of it. -/
theorem GrowSl.shape {et esz len : Nat} {s : AV} {cs : List AV} (hg : GrowSl h et esz s len cs) (hl : 0 < len) : ∃ b ck, s = .slc (some (b, 0)) len len et ck ∧ h.get b = some (.cells cs false) := by
  rcases hg.here with ⟨_, rfl, h1, _⟩ | ⟨b2, ck, rfl, h2, h3⟩
  · omega
  · exact ⟨b2, ck, rfl, h3⟩
theorem zeros_len {z : List AV} : ∀ {k : Nat}, (sizedZeros z k).length = k * z.length
  | 0 => by simp [sizedZeros]
  | k + 1 => by rw [sizedZeros, List.length_append, zeros_len, Nat.add_mul]; omega
theorem zeros_one {x : AV} : ∀ {k : Nat}, sizedZeros [x] k = List.replicate k x
  | 0 => rfl
  | k + 1 => by rw [sizedZeros, zeros_one]; rfl
end
end Go.AM
/- More rules: writing into lists, comparing pairs, the lesser of two. -/
namespace Go.AM
open Go
noncomputable section
variable {ft : T AFunc} {O : Ora} {X : Fns} {tm : T AV} {σ σ' : AS} {h h' : T AObj} {n n' fl : Nat} {v x : AV} {k : IntKind} {a b c d : Int}

theorem wr_succ {l vs : List AV} {o : Nat} : wr (x :: l) (o + 1) vs = x :: wr l o vs := by
  unfold wr
  rw [show o + 1 + vs.length = (o + vs.length) + 1 by omega]
  simp
theorem wr_cons {l vs : List AV} : wr (x :: l) 0 (v :: vs) = v :: wr l 0 vs := by
  unfold wr; simp
theorem wr_nil {l : List AV} : wr l 0 [] = l := by unfold wr; simp
theorem wr_set : ∀ {l : List AV} {i : Nat}, i < l.length → wr l i [v] = l.set i v
  | [], _, h => by simp at h
  | y :: l, 0, _ => by rw [wr_cons, wr_nil]; rfl
  | y :: l, i + 1, h => by rw [wr_succ, wr_set (by simpa using h)]; rfl
theorem wr_len {l vs : List AV} {o : Nat} (h : o + vs.length ≤ l.length) : (wr l o vs).length = l.length := by
  unfold wr; simp; omega
theorem wr_ints {l : List Int} {i : Nat} (h : i < l.length) (a : Int) : wr (ints l) i [.int .i64 a] = ints (l.set i a) := by
  rw [wr_set (by simpa [ints] using h)]
  unfold ints; rw [List.map_set]
theorem wr_all {l : List AV} {i : Nat} (h : l.all AV.scalar = true) (hv : v.scalar = true) (hi : i < l.length) : (wr l i [v]).all AV.scalar = true := by
  rw [wr_set hi, List.all_eq_true]
  intro y hy
  rcases List.mem_or_eq_of_mem_set hy with hy | rfl
  · exact List.all_eq_true.1 h y hy
  · exact hv
theorem fold_min : foldV minV (.int k a) [.int k b] = some (.int k (min a b)) := by
  show (minV (.int k a) (.int k b)).bind (fun w => foldV minV w []) = _
  have : minV (.int k a) (.int k b) = some (.int k (bif decide (b < a) then b else a)) := by
    show (bif kEq k k then _ else none) = _
    rw [kEq_self]; rfl
  rw [this]
  show some (AV.int k _) = _
  congr 2
  by_cases h : b < a
  · simp [h]; omega
  · simp [h]; omega
theorem fold_max : foldV maxV (.int k a) [.int k b] = some (.int k (max a b)) := by
  show (maxV (.int k a) (.int k b)).bind (fun w => foldV maxV w []) = _
  have : maxV (.int k a) (.int k b) = some (.int k (bif decide (a < b) then b else a)) := by
    show (bif kEq k k then _ else none) = _
    rw [kEq_self]; rfl
  rw [this]
  show some (AV.int k _) = _
  congr 2
  by_cases h : a < b
  · simp [h]; omega
  · simp [h]; omega
theorem same2 : sameKinds [.int .i64 a, .int .i64 b] [.int .i64 c, .int .i64 d] = true := rfl
theorem eq2 : intsEq [.int .i64 a, .int .i64 b] [.int .i64 c, .int .i64 d] = some (decide (a = c ∧ b = d)) := by
  show (bif kEq .i64 .i64 then (bif decide (a = c) then (bif kEq .i64 .i64 then (bif decide (b = d) then some true else some false) else none) else some false) else none) = _
  have k : kEq .i64 .i64 = true := rfl
  rw [k]
  by_cases h1 : a = c
  · subst h1
    by_cases h2 : b = d <;> simp [h2]
  · simp [h1]
theorem reC_i {base : Nat} {l : List Stp} : reC X base l tm σ (some (.int k a, σ')) (some (.int k a)) = runSteps X base l tm σ := reC_s beq_int
theorem beq_slc {p : Option (Nat × Nat)} {l c e : Nat} {ck : CK} : AV.beq (.slc p l c e ck) (.slc p l c e ck) = true := by simp [AV.beq]
theorem reC_slc {base : Nat} {l : List Stp} {p : Option (Nat × Nat)} {q c e : Nat} {ck : CK} : reC X base l tm σ (some (.slc p q c e ck, σ')) (some (.slc p q c e ck)) = runSteps X base l tm σ := reC_s beq_slc
theorem xor_tt : (xor true true) = false := rfl
theorem xor_tf : (xor true false) = true := rfl
theorem xor_ft : (xor false true) = true := rfl
theorem xor_ff : (xor false false) = false := rfl
theorem ints_i {l : List Int} {i : Nat} {a : Int} (e : l[i]? = some a) : (ints l)[i]? = some (.int .i64 a) := ints_get e
/-- Rules, together. -/
def evx :=
  And.intro (@hput_put) (
  And.intro (@x_rangeE) (
  And.intro (@rangeC_s) (
  And.intro (@lookup_E) (
  And.intro (@lkO_s) (
  And.intro (@lkF_two) (
  And.intro (@mapEntry_E) (
  And.intro (@enO_s) (
  And.intro (@enF_two) (
  And.intro (@entryStore_E) (
  And.intro (@esO_s) (
  And.intro (@delete_E) (
  And.intro (@deO_s) (
  And.intro (@wr_succ) (
  And.intro (@wr_cons) (
  And.intro (@wr_nil) (
  And.intro (@fold_min) (
  And.intro (@fold_max) (
  And.intro (@same2) (
  And.intro (@eq2) (
  And.intro (@reC_i) (
  And.intro (@reC_slc) (
  And.intro (@xor_tt) (
  And.intro (@xor_tf) (
  And.intro (@xor_ft) (
  And.intro (@xor_ff) (@ints_len))))))))))))))))))))))))))
end
end Go.AM
/- The arguments of a law, read as the small machine's. -/
namespace Go.AM
open Go Go.ChangeShapes
noncomputable section
variable {P : Program} {H : Type} {enc : TypeId × Value → H} {w : World} {f f' : FM} {σ σ' : AS}

/-- Memory that is only read, and what stands for it. -/
structure Good (P : Program) (w : World) (f : FM) (σ : AS) : Prop where
  rel : Rel P f σ w
  dom : Dom f σ
  fl : σ.floor = 0
  ro : ∀ b o, σ.heap.get b = some o → ∃ c, o = .cells c true
/-- It has grown. -/
structure GExt (f : FM) (σ : AS) (f' : FM) (σ' : AS) : Prop where
  sub : Sub f f'
  nx : σ.next ≤ σ'.next
  keep : ∀ b o, σ.heap.get b = some o → σ'.heap.get b = some o
theorem GExt.refl : GExt f σ f σ := ⟨Sub.refl f, Nat.le_refl _, fun _ _ h => h⟩
theorem GExt.trans {f2 : FM} {σ2 : AS} (a : GExt f σ f' σ') (b : GExt f' σ' f2 σ2) : GExt f σ f2 σ2 := ⟨a.sub.trans b.sub, Nat.le_trans a.nx b.nx, fun x o h => b.keep x o (a.keep x o h)⟩

/-- The shape of the cells of a type. -/
def Shp (P : Program) (h : T AObj) : Nat → TypeId → List AV → Prop
  | 0, _, _ => False
  | n + 1, t, avs =>
    match P.underlying t with
    | some .bool => ∃ b, avs = [.bool b]
    | some (.int k) => ∃ a, avs = [.int k a] ∧ k.min ≤ a ∧ a ≤ k.max
    | some .string => ∃ s, avs = [.str s] ∧ s.length ≤ maxLen ∧ ∀ c ∈ s, c < 256
    | some (.slice e) => ∃ a len cap, avs = [.slc a len cap e .exact] ∧ len ≤ maxLen ∧ (len = 0 ∨ ∃ b c, a = some (b, 0) ∧ h.get b = some (.cells c true) ∧ c.length = len * P.cellsOf e ∧ ∀ i, i < len → Shp P h n e ((c.drop (i * P.cellsOf e)).take (P.cellsOf e)))
    | some (.struct fs) => avs.length = P.cellsOf t ∧ ∀ x ∈ fs.toList, Shp P h n x.type ((avs.drop x.offset).take (P.cellsOf x.type))
    | some (.array m e) => avs.length = P.cellsOf t ∧ ∀ i, i < m → Shp P h n e ((avs.drop (i * P.cellsOf e)).take (P.cellsOf e))
    | _ => False
theorem Shp.keep {h h' : T AObj} (hk : ∀ b o, h.get b = some o → h'.get b = some o) : ∀ {n : Nat} {t : TypeId} {avs : List AV}, Shp P h n t avs → Shp P h' n t avs
  | 0, _, _, hs => hs.elim
  | n + 1, t, avs, hs => by
    unfold Shp at hs ⊢
    split at hs
    · exact hs
    · exact hs
    · exact hs
    · obtain ⟨a, len, cap, h1, h2, h3⟩ := hs
      refine ⟨a, len, cap, h1, h2, ?_⟩
      rcases h3 with h3 | ⟨b, c, h4, h5, h6, h7⟩
      · exact .inl h3
      · exact .inr ⟨b, c, h4, hk b _ h5, h6, fun i hi => (h7 i hi).keep hk⟩
    · exact ⟨hs.1, fun x hx => (hs.2 x hx).keep hk⟩
    · exact ⟨hs.1, fun i hi => (hs.2 i hi).keep hk⟩
    · exact hs.elim

/-- The types that are read so: no pointers, no maps; the fields of a struct lie one behind the other, each of a cell at least. -/
def flatTy (P : Program) : Nat → TypeId → Bool
  | 0, _ => false
  | n + 1, t =>
    match P.underlying t with
    | some .bool | some (.int _) | some .string => P.cellsOf t == 1
    | some (.slice e) => P.cellsOf t == 1 && decide (0 < P.cellsOf e) && flatTy P n e
    | some (.struct fs) => fs.toList.all (fun x => flatTy P n x.type) && (fs.toList.foldl (fun (a : Option Nat) (x : Field) => a.bind fun o => bif x.offset == o then some (o + P.cellsOf x.type) else none) (some 0) == some (P.cellsOf t))
    | some (.array m e) => flatTy P n e && (P.cellsOf t == m * P.cellsOf e)
    | _ => false

/-- Pieces, one behind the other. -/
def contig (P : Program) : Nat → List Field → Option Nat
  | o, [] => some o
  | o, x :: r => bif x.offset == o then contig P (o + P.cellsOf x.type) r else none
theorem contig_foldl : ∀ (l : List Field) (a : Option Nat), l.foldl (fun (a : Option Nat) (x : Field) => a.bind fun o => bif x.offset == o then some (o + P.cellsOf x.type) else none) a = a.bind fun o => contig P o l
  | [], a => by cases a <;> rfl
  | x :: l, a => by
    rw [List.foldl_cons, contig_foldl l]
    cases a with
    | none => rfl
    | some o =>
      show (bif x.offset == o then some (o + P.cellsOf x.type) else none : Option Nat).bind (fun o => contig P o l) = (bif x.offset == o then contig P (o + P.cellsOf x.type) l else none)
      cases x.offset == o <;> rfl

theorem upd_sub {b : Nat} (t : Nat × Nat × Nat) (h : f b = none) : Sub f (upd f b t) := sub_upd t h
/-- A block more, that stands for a part of one of the model's. -/
theorem Good.add {c : List AV} {rb off rs : Nat} (hg : Good P w f σ) (ho : ObjR P f w σ.next (.cells c true) → False ∨ True) (hobj : ∃ rc et fr, w.heap[rb]? = some (.cells rc et fr) ∧ rc.size = rs ∧ off + c.length ≤ rs ∧ CellsR P f c rc off) :
    Good P w (upd f σ.next (rb, off, rs)) (σ.alloc (.cells c true)) ∧ GExt f σ (upd f σ.next (rb, off, rs)) (σ.alloc (.cells c true)) := by
  have hn : f σ.next = none := hg.dom _ (Nat.le_refl _)
  have hs := upd_sub (rb, off, rs) hn
  have hhn : σ.heap.get σ.next = none := by cases e : σ.heap.get σ.next with | none => rfl | some o => exact absurd (hg.rel.lt _ _ e) (Nat.lt_irrefl _)
  refine ⟨⟨⟨fun b o hb => ?_, fun b o hb => ?_, fun b b' o o' t t' h1 h2 hne hrw => ?_⟩, fun b hb => ?_, hg.fl, fun b o hb => ?_⟩, hs, Nat.le_succ _, fun b o hb => ?_⟩
  · simp only [AS.alloc, T.get_put] at hb
    split at hb
    · rename_i e; subst e; cases hb
      obtain ⟨rc, et, fr, h1, h2, h3, h4⟩ := hobj
      exact ⟨rb, off, rs, rc, et, fr, upd_same f _ _, h1, h2, h3, h4.mono hs, fun h => by cases h⟩
    · exact (hg.rel.obj b o hb).mono hs
  · simp only [AS.alloc, T.get_put] at hb ⊢
    split at hb
    · omega
    · have := hg.rel.lt b o hb; omega
  · simp only [AS.alloc, T.get_put] at h1
    split at h1
    · cases h1; cases hrw
    · obtain ⟨c, rfl⟩ := hg.ro b o h1; cases hrw
  · have hb : σ.next + 1 ≤ b := hb
    rw [upd_other f _ (by omega)]; exact hg.dom b (by omega)
  · simp only [AS.alloc, T.get_put] at hb
    split at hb
    · cases hb; exact ⟨c, rfl⟩
    · exact hg.ro b o hb
  · simp only [AS.alloc, T.get_put]
    rw [if_neg (fun e => by rw [e, hhn] at hb; cases hb)]; exact hb
/-- A number more, for nothing. -/
theorem Good.skip {t : Nat × Nat × Nat} (hg : Good P w f σ) : Good P w (upd f σ.next t) { σ with next := σ.next + 1 } ∧ GExt f σ (upd f σ.next t) { σ with next := σ.next + 1 } := by
  have hn : f σ.next = none := hg.dom _ (Nat.le_refl _)
  have hs := upd_sub t hn
  refine ⟨⟨⟨fun b o hb => (hg.rel.obj b o hb).mono hs, fun b o hb => Nat.lt_succ_of_lt (hg.rel.lt b o hb), fun b b' o o' t t' h1 h2 hne hrw => ?_⟩, fun b hb => ?_, hg.fl, hg.ro⟩, hs, Nat.le_succ _, fun b o hb => hb⟩
  · obtain ⟨c, rfl⟩ := hg.ro b o h1; cases hrw
  · have hb : σ.next + 1 ≤ b := hb
    rw [upd_other f _ (by omega)]; exact hg.dom b (by omega)

theorem cells_get {base : Nat} {a : Addr} {n : Nat} {l : List Value} (h : w.cells? base a n = some l) : l.length = n ∧ ∀ i, i < n → w.cell? (a.add i) = l[i]? := by
  unfold World.cells? at h
  split at h
  · exact ⟨by simpa using mapM_some_length h, fun i hi => mapM_some_get h i i (by simp [hi])⟩
  · cases h
theorem cell_get {a : Addr} {v : Value} (h : w.cell? a = some v) : a.spot = none ∧ ∃ rc et fr, w.heap[a.block]? = some (.cells rc et fr) ∧ rc[a.off]? = some v := by
  unfold World.cell? at h
  split at h
  · rename_i c et fr e
    cases hs : a.spot with
    | some s => rw [hs] at h; simp at h
    | none => rw [hs] at h; exact ⟨rfl, c, et, fr, e, by simpa using h⟩
  · cases h

theorem adr_block (a : Addr) (n : Nat) : (a.add n).block = a.block := by unfold Addr.add; split <;> rfl
theorem adr_off (a : Addr) (n : Nat) : (a.add n).off = a.off + n := by
  unfold Addr.add
  split
  · rename_i h; rw [h]; rfl
  · rfl
theorem adr_zero (a : Addr) : a.add 0 = a := by simp [Addr.add]
/-- Many pieces, each read. -/
theorem build_list {n : Nat} (ih : ∀ (t : TypeId) (cs : List Value) (x : DataW H × List MemPlace), flatTy P n t = true → DataW.trod enc P w 0 (fun _ => true) true n t cs = some x → ∀ f σ, Good P w f σ →
      ∃ f' σ' avs, Good P w f' σ' ∧ GExt f σ f' σ' ∧ VRs P f' avs cs ∧ Shp P σ'.heap n t avs ∧ avs.all AV.scalar = true) :
    ∀ (l : List (TypeId × List Value)), (∀ p ∈ l, flatTy P n p.1 = true ∧ ∃ x, DataW.trod enc P w 0 (fun _ => true) true n p.1 p.2 = some x) → ∀ f σ, Good P w f σ →
      ∃ (f' : FM) (σ' : AS) (r : List (List AV)), Good P w f' σ' ∧ GExt f σ f' σ' ∧ r.length = l.length ∧ VRs P f' r.flatten (l.map (·.2)).flatten ∧ r.flatten.all AV.scalar = true ∧
        ∀ (i : Nat) (p : TypeId × List Value), l[i]? = some p → ∃ avs, r[i]? = some avs ∧ avs.length = p.2.length ∧ Shp P σ'.heap n p.1 avs
  | [], _, f, σ, hg => ⟨f, σ, [], hg, GExt.refl, rfl, by simp [VRs], rfl, fun i p hp => by simp at hp⟩
  | (t, cs) :: l, hl, f, σ, hg => by
    obtain ⟨h1, x, h2⟩ := hl (t, cs) (by simp)
    obtain ⟨f1, σ1, avs, g1, e1, v1, s1, a1⟩ := ih t cs x h1 h2 f σ hg
    obtain ⟨f2, σ2, r, g2, e2, l2, v2, a2, s2⟩ := build_list ih l (fun p hp => hl p (by simp [hp])) f1 σ1 g1
    refine ⟨f2, σ2, avs :: r, g2, e1.trans e2, by simp [l2], ?_, ?_, fun i p hp => ?_⟩
    · simp only [List.flatten_cons, List.map_cons]
      exact (v1.mono e2.sub).append v2
    · simp only [List.flatten_cons, List.all_append, a1, a2, Bool.and_self]
    · cases i with
      | zero =>
        simp at hp; subst hp
        exact ⟨avs, rfl, v1.length.symm, s1.keep e2.keep⟩
      | succ i => exact s2 i p (by simpa using hp)
/-- A piece of pieces that lie one behind the other. -/
theorem flatten_piece {α : Type} : ∀ {r : List (List α)} {i : Nat} {a : List α}, r[i]? = some a → ((r.flatten.drop ((r.take i).map List.length).sum).take a.length) = a
  | [], _, _, h => by simp at h
  | x :: r, 0, a, h => by simp at h; subst h; simp
  | x :: r, i + 1, a, h => by
    have ih := flatten_piece (r := r) (i := i) (a := a) (by simpa using h)
    simp only [List.flatten_cons, List.take_succ_cons, List.map_cons, List.sum_cons]
    rw [List.drop_append, List.drop_eq_nil_of_le (by omega), Nat.add_sub_cancel_left, List.nil_append]
    exact ih
theorem contig_flat {cs : List Value} : ∀ {l : List Field} {o e : Nat}, contig P o l = some e → e ≤ cs.length → o ≤ e ∧ (l.map fun x => (cs.drop x.offset).take (P.cellsOf x.type)).flatten = (cs.drop o).take (e - o)
  | [], o, e, h, _ => by simp [contig] at h; subst h; simp
  | x :: l, o, e, h, he => by
    unfold contig at h
    cases c : x.offset == o with
    | false => rw [c] at h; cases h
    | true =>
      rw [c] at h
      have c := eq_of_beq c
      obtain ⟨h1, h2⟩ := contig_flat (l := l) h he
      refine ⟨by omega, ?_⟩
      rw [List.map_cons, List.flatten_cons, h2, c, show e - o = P.cellsOf x.type + (e - (o + P.cellsOf x.type)) by omega, List.take_add, List.drop_drop]
theorem contig_off : ∀ {l : List Field} {o e i : Nat} {x : Field}, contig P o l = some e → l[i]? = some x → x.offset = o + ((l.take i).map fun x => P.cellsOf x.type).sum
  | [], _, _, _, _, _, h => by simp at h
  | y :: l, o, e, i, x, h, hx => by
    unfold contig at h
    cases c : y.offset == o with
    | false => rw [c] at h; cases h
    | true =>
      rw [c] at h
      have c := eq_of_beq c
      cases i with
      | zero => simp at hx; subst hx; simp [c]
      | succ i =>
        have := contig_off (i := i) h (by simpa using hx)
        rw [this]; simp; omega
/-- The cells of a type, read as the small machine's. -/
theorem build : ∀ (n : Nat) (t : TypeId) (cs : List Value) (x : DataW H × List MemPlace), flatTy P n t = true → DataW.trod enc P w 0 (fun _ => true) true n t cs = some x → ∀ f σ, Good P w f σ →
    ∃ f' σ' avs, Good P w f' σ' ∧ GExt f σ f' σ' ∧ VRs P f' avs cs ∧ Shp P σ'.heap n t avs ∧ avs.all AV.scalar = true
  | 0, _, _, _, h, _ => by cases h
  | n + 1, t, cs, x, hfl, h => fun f σ hg => by
    unfold flatTy at hfl
    unfold Shp
    split at hfl
    · rename_i ht
      obtain ⟨b, rfl, _⟩ := DataW.trod_bool ht h
      exact ⟨f, σ, [.bool b], hg, GExt.refl, by simp [VRs, VR], ⟨b, rfl⟩, rfl⟩
    · rename_i k ht
      obtain ⟨a, rfl, _, hw⟩ := DataW.trod_int ht h
      simp only [Lit.wf, Bool.and_eq_true, decide_eq_true_eq] at hw
      exact ⟨f, σ, [.int k a], hg, GExt.refl, by simp [VRs, VR], ⟨a, rfl, hw.1, hw.2⟩, rfl⟩
    · rename_i ht
      obtain ⟨s, rfl, _, hs⟩ := DataW.trod_string ht h
      refine ⟨f, σ, [.str (s.data.toList.map UInt8.toNat)], hg, GExt.refl, by simp [VRs, VR], ⟨_, rfl, ?_, fun c hc => ?_⟩, rfl⟩
      · rw [List.length_map, Array.length_toList]; exact hs
      · obtain ⟨u, _, rfl⟩ := List.mem_map.1 hc
        exact u.toNat_lt
    · rename_i e ht
      simp only [Bool.and_eq_true, decide_eq_true_eq] at hfl
      obtain ⟨⟨_, hk⟩, hfe⟩ := hfl
      rcases DataW.trod_slice ht h with ⟨rfl, _⟩ | ⟨a, len, cap, elems, rest, m, hm, rfl, _, _, hlc, hcm, hel, helt, hsp, _⟩
      · exact ⟨f, σ, [.slc none 0 0 e .exact], hg, GExt.refl, by simp [VRs, VR], ⟨none, 0, 0, rfl, by simp [maxLen], .inl rfl⟩, rfl⟩
      · have hm : n = m := by omega
        subst hm
        obtain ⟨hr1, hr2⟩ := hsp rfl
        have elem : ∀ i, i < cap → ∃ y, (w.cells? 0 (a.add (i * P.cellsOf e)) (P.cellsOf e)).bind (DataW.trod enc P w 0 (fun _ => true) true n e) = some y := fun i hi => by
          by_cases c : i < len
          · exact ⟨_, (helt i c).trans (List.getElem?_eq_getElem (by omega))⟩
          · have := hr2 (i - len) (by omega)
            rw [show len + (i - len) = i by omega] at this
            exact ⟨_, this.trans (List.getElem?_eq_getElem (by omega))⟩
        have spot : 0 < cap → a.spot = none := fun hc => by
          obtain ⟨y, hy⟩ := elem 0 hc
          obtain ⟨l, hl, _⟩ := Option.bind_eq_some_iff.1 hy
          obtain ⟨l1, l2⟩ := cells_get hl
          have h0 := l2 0 hk
          rw [List.getElem?_eq_getElem (by omega)] at h0
          have h1 := (cell_get h0).1
          rw [Nat.zero_mul, adr_zero, adr_zero] at h1; exact h1
        rcases Nat.eq_zero_or_pos len with hl0 | hl0
        · subst hl0
          obtain ⟨g2, e2⟩ := hg.skip (t := (a.block, a.off, 0))
          refine ⟨_, _, [.slc (some (σ.next, 0)) 0 cap e .exact], g2, e2, ?_, ⟨some (σ.next, 0), 0, cap, rfl, by simp [maxLen], .inl rfl⟩, rfl⟩
          simp only [VRs, VR]
          refine ⟨_, _, rfl, ⟨a.block, a.off, 0, a, cap, upd_same f _ _, rfl, by omega, by omega, ?_, rfl⟩, rfl⟩
          rcases Nat.eq_zero_or_pos cap with hc | hc
          · exact .inl hc
          · refine .inr ?_
            have := spot hc
            cases a; simp at this; subst this; rfl
        · have hcells : ∀ i, i < len → ∃ l, w.cells? 0 (a.add (i * P.cellsOf e)) (P.cellsOf e) = some l ∧ ∃ x, DataW.trod enc P w 0 (fun _ => true) true n e l = some x := fun i hi => by
            obtain ⟨y, hy⟩ := elem i (by omega)
            obtain ⟨l, hl, hx⟩ := Option.bind_eq_some_iff.1 hy
            exact ⟨l, hl, y, hx⟩
          -- the pieces
          let pc : Nat → List Value := fun i => (w.cells? 0 (a.add (i * P.cellsOf e)) (P.cellsOf e)).getD []
          have hpc : ∀ i, i < len → w.cells? 0 (a.add (i * P.cellsOf e)) (P.cellsOf e) = some (pc i) := fun i hi => by
            obtain ⟨l, hl, _⟩ := hcells i hi
            show _ = some ((w.cells? 0 (a.add (i * P.cellsOf e)) (P.cellsOf e)).getD [])
            rw [hl]; rfl
          obtain ⟨f1, σ1, r, g1, e1, l1, v1, a1, s1⟩ := build_list (build n) ((List.range len).map fun i => (e, pc i)) (fun p hp => by
            obtain ⟨i, hi, rfl⟩ := List.mem_map.1 hp
            have hi := List.mem_range.1 hi
            obtain ⟨l, hl, hx⟩ := hcells i hi
            rw [hpc i hi] at hl; cases hl
            exact ⟨hfe, hx⟩) f σ hg
          have lpc : ∀ i, i < len → (pc i).length = P.cellsOf e := fun i hi => (cells_get (hpc i hi)).1
          have rlen : ∀ i, i < len → ∃ avs, r[i]? = some avs ∧ avs.length = P.cellsOf e ∧ Shp P σ1.heap n e avs := fun i hi => by
            obtain ⟨avs, h1, h2, h3⟩ := s1 i (e, pc i) (by rw [List.getElem?_map, List.getElem?_range hi]; rfl)
            exact ⟨avs, h1, by rw [h2]; exact lpc i hi, h3⟩
          have hrl : r.length = len := by rw [l1]; simp
          have hall : ∀ y ∈ r, y.length = P.cellsOf e := fun y hy => by
            obtain ⟨i, hi⟩ := List.getElem?_of_mem hy
            obtain ⟨avs, h1, h2, _⟩ := rlen i (by rw [← hrl]; exact (List.getElem?_eq_some_iff.1 hi).1)
            rw [hi] at h1; cases h1; exact h2
          have hsum : ∀ (q : List (List AV)), (∀ y ∈ q, y.length = P.cellsOf e) → (q.map List.length).sum = q.length * P.cellsOf e := by
            intro q
            induction q with
            | nil => intro _; simp
            | cons y q ih =>
              intro hq
              simp only [List.map_cons, List.sum_cons, List.length_cons, Nat.add_mul]
              rw [ih fun z hz => hq z (by simp [hz]), hq y (by simp)]; omega
          have hfl : r.flatten.length = len * P.cellsOf e := by rw [List.length_flatten, hsum r hall, hrl]
          have hsp0 := spot (by omega)
          -- the model's block
          obtain ⟨rc, et, fr, hb, _⟩ := by
            have h0 := (cells_get (hpc 0 hl0)).2 0 hk
            rw [List.getElem?_eq_getElem (by rw [lpc 0 hl0]; exact hk)] at h0
            exact (cell_get h0).2
          have hblk : w.heap[a.block]? = some (.cells rc et fr) := by
            rw [Nat.zero_mul, adr_zero, adr_zero] at hb; exact hb
          have hcell : ∀ i j, i < len → j < P.cellsOf e → rc[a.off + (i * P.cellsOf e + j)]? = (pc i)[j]? := fun i j hi hj => by
            have h0 := (cells_get (hpc i hi)).2 j hj
            rw [List.getElem?_eq_getElem (by rw [lpc i hi]; exact hj)] at h0 ⊢
            obtain ⟨_, rc2, et2, fr2, q1, q2⟩ := cell_get h0
            have e3 : ((a.add (i * P.cellsOf e)).add j).block = a.block := by rw [adr_block, adr_block]
            have e4 : ((a.add (i * P.cellsOf e)).add j).off = a.off + (i * P.cellsOf e + j) := by rw [adr_off, adr_off, Nat.add_assoc]
            rw [e3, hblk] at q1; cases q1
            rw [e4] at q2; exact q2
          have hget : ∀ (i : Nat) (v : AV), r.flatten[i]? = some v → v.scalar = true ∧ ∃ rv, rc[a.off + i]? = some rv ∧ VR P f1 v rv := fun i v hv => by
            refine ⟨List.all_eq_true.1 a1 _ (List.mem_of_getElem? hv), ?_⟩
            have hi : i < len * P.cellsOf e := by rw [← hfl]; exact (List.getElem?_eq_some_iff.1 hv).1
            obtain ⟨rv, h1, h2⟩ := v1.get hv
            refine ⟨rv, ?_, h2⟩
            have hq : i / P.cellsOf e < len := by rw [Nat.div_lt_iff_lt_mul hk]; exact hi
            have hj := Nat.mod_lt i hk
            have hij : i / P.cellsOf e * P.cellsOf e + i % P.cellsOf e = i := by rw [Nat.mul_comm]; exact Nat.div_add_mod _ _
            have := hcell _ _ hq hj
            rw [hij] at this
            rw [this, ← h1]
            -- the flat list of the model's pieces
            have hp2 : (((List.range len).map fun i => ((e, pc i) : TypeId × List Value)).map (·.2))[i / P.cellsOf e]? = some (pc (i / P.cellsOf e)) := by
              rw [List.getElem?_map, List.getElem?_map, List.getElem?_range hq]; rfl
            have hpp := flatten_piece hp2
            have hs2 : ((((((List.range len).map fun i => ((e, pc i) : TypeId × List Value)).map (·.2)).take (i / P.cellsOf e)).map List.length).sum) = i / P.cellsOf e * P.cellsOf e := by
              have : ∀ k, k ≤ len → ((((((List.range len).map fun i => ((e, pc i) : TypeId × List Value)).map (·.2)).take k).map List.length).sum) = k * P.cellsOf e := by
                intro k
                induction k with
                | zero => intro _; simp
                | succ k ih =>
                  intro hk2
                  rw [List.take_succ, List.map_append, List.sum_append, ih (by omega), List.getElem?_map, List.getElem?_map, List.getElem?_range (by omega)]
                  simp [lpc k (by omega), Nat.add_mul]
              exact this _ (by omega)
            rw [hs2] at hpp
            rw [← hpp, List.getElem?_take, if_pos (by rw [lpc _ hq]; exact hj), List.getElem?_drop, hij]
          have hle : a.off + r.flatten.length ≤ rc.size := by
            have hlast : len * P.cellsOf e - 1 < r.flatten.length := by rw [hfl]; have := Nat.mul_pos hl0 hk; omega
            obtain ⟨_, rv, h1, _⟩ := hget _ _ (List.getElem?_eq_getElem hlast)
            have := (Array.getElem?_eq_some_iff.1 h1).1
            rw [hfl]; omega
          obtain ⟨g2, e2⟩ := g1.add (c := r.flatten) (rb := a.block) (off := a.off) (rs := rc.size) (fun _ => .inr trivial) ⟨rc, et, fr, hblk, rfl, hle, hget⟩
          refine ⟨_, _, [.slc (some (σ1.next, 0)) len cap e .exact], g2, e1.trans e2, ?_, ⟨some (σ1.next, 0), len, cap, rfl, by omega, .inr ⟨σ1.next, r.flatten, rfl, ?_, hfl, fun i hi => ?_⟩⟩, rfl⟩
          · simp only [VRs, VR]
            refine ⟨_, _, rfl, ⟨a.block, a.off, rc.size, a, cap, upd_same f1 _ _, rfl, hlc, by omega, .inr ?_, rfl⟩, rfl⟩
            cases a; simp at hsp0; subst hsp0; rfl
          · simp [AS.alloc, T.get_put]
          · obtain ⟨avs, h1, h2, h3⟩ := rlen i hi
            have hpp := flatten_piece h1
            have hs2 : ((r.take i).map List.length).sum = i * P.cellsOf e := by
              rw [hsum (r.take i) fun y hy => hall y (List.mem_of_mem_take hy), List.length_take, hrl]
              congr 1; omega
            rw [hs2, h2] at hpp
            rw [hpp]
            exact h3.keep e2.keep
    · rename_i fs ht
      simp only [Bool.and_eq_true, List.all_eq_true, beq_iff_eq] at hfl
      obtain ⟨hfa, hct⟩ := hfl
      rw [contig_foldl] at hct
      have hct : contig P 0 fs.toList = some (P.cellsOf t) := hct
      obtain ⟨xs, m, hm, _, hcl, hxl, hx⟩ := DataW.trod_struct ht h
      have hm : n = m := by omega
      subst hm
      obtain ⟨f1, σ1, r, g1, e1, l1, v1, a1, s1⟩ := build_list (build n) (fs.toList.map fun y => (y.type, (cs.drop y.offset).take (P.cellsOf y.type))) (fun p hp => by
        obtain ⟨y, hy, rfl⟩ := List.mem_map.1 hp
        obtain ⟨i, hi⟩ := List.getElem?_of_mem hy
        have h1 := hx i y (by simpa using hi)
        have hlt := (List.getElem?_eq_some_iff.1 hi).1
        rw [List.getElem?_eq_getElem (by rw [hxl]; simpa using hlt)] at h1
        exact ⟨hfa y hy, _, h1⟩) f σ hg
      have hcf := (contig_flat (cs := cs) hct (by omega)).2
      have hflat : ((fs.toList.map fun y => ((y.type, (cs.drop y.offset).take (P.cellsOf y.type)) : TypeId × List Value)).map (·.2)).flatten = cs := by
        rw [List.map_map]
        show (fs.toList.map fun y => (cs.drop y.offset).take (P.cellsOf y.type)).flatten = cs
        rw [hcf, Nat.sub_zero, List.drop_zero, ← hcl, List.take_length]
      rw [hflat] at v1
      refine ⟨f1, σ1, r.flatten, g1, e1, v1, ⟨by rw [← v1.length, hcl], fun y hy => ?_⟩, a1⟩
      obtain ⟨i, hi⟩ := List.getElem?_of_mem hy
      obtain ⟨avs, h1, h2, h3⟩ := s1 i (y.type, (cs.drop y.offset).take (P.cellsOf y.type)) (by rw [List.getElem?_map, hi]; rfl)
      have hoff := contig_off hct hi
      have hlen : ∀ (j : Nat) (z : Field), fs.toList[j]? = some z → ((cs.drop z.offset).take (P.cellsOf z.type)).length = P.cellsOf z.type := fun j z hz => by
        have h5 := contig_off hct hz
        have h6 : ∀ (l : List Field) (o e : Nat), contig P o l = some e → ∀ (j : Nat) (z : Field), l[j]? = some z → z.offset + P.cellsOf z.type ≤ e := by
          intro l
          induction l with
          | nil => intro o e _ j z hz; simp at hz
          | cons q l ih =>
            intro o e hc j z hz
            unfold contig at hc
            cases c : q.offset == o with
            | false => rw [c] at hc; cases hc
            | true =>
              rw [c] at hc
              have c := eq_of_beq c
              cases j with
              | zero =>
                simp at hz; subst hz
                have := (contig_flat (P := P) (cs := List.replicate e (.bool true)) hc (by simp)).1
                omega
              | succ j => exact ih _ _ hc j z (by simpa using hz)
        have := h6 _ _ _ hct j z hz
        rw [List.length_take, List.length_drop]; omega
      have hpp := flatten_piece h1
      have hs2 : ((r.take i).map List.length).sum = y.offset := by
        rw [hoff, Nat.zero_add]
        congr 1
        apply List.ext_getElem?
        intro j
        rw [List.getElem?_map, List.getElem?_map, List.getElem?_take, List.getElem?_take]
        by_cases c : j < i
        · rw [if_pos c, if_pos c]
          cases hz : fs.toList[j]? with
          | none =>
            have : r[j]? = none := by
              rw [List.getElem?_eq_none_iff] at hz ⊢
              rw [l1, List.length_map]; exact hz
            rw [this]; rfl
          | some z =>
            obtain ⟨av2, q1, q2, _⟩ := s1 j (z.type, (cs.drop z.offset).take (P.cellsOf z.type)) (by rw [List.getElem?_map, hz]; rfl)
            rw [q1]
            simp only [Option.map_some, Option.some.injEq]
            rw [q2]; exact hlen j z hz
        · rw [if_neg c, if_neg c]; rfl
      have h4 := hlen i y hi
      rw [hs2, h2, h4] at hpp
      rw [hpp]; exact h3
    · rename_i m e ht
      simp only [Bool.and_eq_true, beq_iff_eq] at hfl
      obtain ⟨hfe, hct⟩ := hfl
      obtain ⟨xs, m2, hm, _, hcl, hxl, hx⟩ := DataW.trod_array ht h
      have hm : n = m2 := by omega
      subst hm
      have lpc : ∀ i, i < m → ((cs.drop (i * P.cellsOf e)).take (P.cellsOf e)).length = P.cellsOf e := fun i hi => by
        rw [List.length_take, List.length_drop, hcl, hct]
        have : (i + 1) * P.cellsOf e ≤ m * P.cellsOf e := Nat.mul_le_mul_right _ (by omega)
        rw [Nat.add_mul] at this; omega
      obtain ⟨f1, σ1, r, g1, e1, l1, v1, a1, s1⟩ := build_list (build n) ((List.range m).map fun i => (e, (cs.drop (i * P.cellsOf e)).take (P.cellsOf e))) (fun p hp => by
        obtain ⟨i, hi, rfl⟩ := List.mem_map.1 hp
        have hi := List.mem_range.1 hi
        have h1 := hx i hi
        rw [List.getElem?_eq_getElem (by omega)] at h1
        exact ⟨hfe, _, h1⟩) f σ hg
      have hflat : ∀ k, k ≤ m → (((List.range k).map fun i => ((e, (cs.drop (i * P.cellsOf e)).take (P.cellsOf e)) : TypeId × List Value)).map (·.2)).flatten = cs.take (k * P.cellsOf e) := by
        intro k
        induction k with
        | zero => intro _; simp
        | succ k ih =>
          intro hk
          rw [List.range_succ, List.map_append, List.map_append, List.flatten_append, ih (by omega)]
          simp [Nat.add_mul, List.take_add]
      rw [hflat m (Nat.le_refl _), ← hct, ← hcl, List.take_length] at v1
      have hrl : r.length = m := by rw [l1]; simp
      have hall : ∀ y ∈ r, y.length = P.cellsOf e := fun y hy => by
        obtain ⟨i, hi⟩ := List.getElem?_of_mem hy
        have hi2 : i < m := by rw [← hrl]; exact (List.getElem?_eq_some_iff.1 hi).1
        obtain ⟨avs, h1, h2, _⟩ := s1 i (e, (cs.drop (i * P.cellsOf e)).take (P.cellsOf e)) (by rw [List.getElem?_map, List.getElem?_range hi2]; rfl)
        rw [hi] at h1; cases h1; rw [h2]; exact lpc i hi2
      have hsum : ∀ (q : List (List AV)), (∀ y ∈ q, y.length = P.cellsOf e) → (q.map List.length).sum = q.length * P.cellsOf e := by
        intro q
        induction q with
        | nil => intro _; simp
        | cons y q ih =>
          intro hq
          simp only [List.map_cons, List.sum_cons, List.length_cons, Nat.add_mul]
          rw [ih fun z hz => hq z (by simp [hz]), hq y (by simp)]; omega
      refine ⟨f1, σ1, r.flatten, g1, e1, v1, ⟨by rw [← v1.length, hcl], fun i hi => ?_⟩, a1⟩
      obtain ⟨avs, h1, h2, h3⟩ := s1 i (e, (cs.drop (i * P.cellsOf e)).take (P.cellsOf e)) (by rw [List.getElem?_map, List.getElem?_range hi]; rfl)
      have hpp := flatten_piece h1
      have hs2 : ((r.take i).map List.length).sum = i * P.cellsOf e := by
        rw [hsum (r.take i) fun y hy => hall y (List.mem_of_mem_take hy), List.length_take, hrl]
        congr 1; omega
      have h4 := lpc i hi
      rw [hs2, h2, h4] at hpp
      rw [hpp]; exact h3
    · cases hfl
end
end Go.AM
/- All arguments of a law at once. -/
namespace Go.AM
open Go Go.ChangeShapes
noncomputable section
variable {P : Program} {H : Type} {enc : TypeId × Value → H} {W : World} {f f' : FM} {σ σ' : AS}

theorem flatTy_succ : ∀ {n : Nat} {t : TypeId}, flatTy P n t = true → flatTy P (n + 1) t = true
  | 0, _, h => by cases h
  | n + 1, t, h => by
    unfold flatTy at h ⊢
    split at h
    · exact h
    · exact h
    · exact h
    · simp only [Bool.and_eq_true] at h ⊢
      exact ⟨h.1, flatTy_succ h.2⟩
    · simp only [Bool.and_eq_true, List.all_eq_true] at h ⊢
      exact ⟨fun x hx => flatTy_succ (h.1 x hx), h.2⟩
    · simp only [Bool.and_eq_true] at h ⊢
      exact ⟨flatTy_succ h.1, h.2⟩
    · cases h
theorem flatTy_le {n m : Nat} {t : TypeId} (h : flatTy P n t = true) (hm : n ≤ m) : flatTy P m t = true := by
  induction hm with
  | refl => exact h
  | step _ ih => exact flatTy_succ ih
/-- An argument, out of its cells. -/
def argOf (P : Program) (t : TypeId) (avs : List AV) : AV :=
  match P.underlying t with
  | some (.struct _) | some (.array _ _) => .agg avs
  | _ => avs.headD (.tup [])
theorem good_nil : Good P W (fun _ => none) ⟨.e, 0, 0⟩ :=
  ⟨⟨fun b o e => (by cases e), fun b o e => (by cases e), fun _ _ _ _ _ _ e => (by cases e)⟩, fun _ _ => rfl, rfl, fun b o e => by cases e⟩
theorem arg_vr {n : Nat} {base : Nat} {t : TypeId} {v : Value} {avs : List AV} {h : T AObj} (hfl : flatTy P n t = true) (hok : Value.okWide P W .any base t v) (hv : VRs P f avs v.cells.toList) (hs : Shp P h n t avs) : VR P f (argOf P t avs) v := by
  have one : ∀ x, avs = [x] → (∀ cs, v ≠ .agg cs) → VR P f x v := fun x hx hna => by
    subst hx
    simp only [VRs] at hv
    obtain ⟨u, r, h1, h2, rfl⟩ := hv
    have : v.cells = #[v] := by
      cases v <;> first | rfl | exact absurd rfl (hna _)
    rw [this] at h1
    simp at h1
    rw [h1]; exact h2
  cases n with
  | zero => cases hfl
  | succ n =>
    unfold flatTy at hfl
    unfold Shp at hs
    unfold argOf
    unfold Value.okWide at hok
    split at hfl
    · rename_i ht
      rw [ht] at hok hs ⊢
      obtain ⟨b, rfl⟩ := hs
      refine one _ rfl fun cs e => ?_
      subst e
      simp [Cell.okWide, Cell.ok, ht] at hok
    · rename_i k ht
      rw [ht] at hok hs ⊢
      obtain ⟨b, rfl, _⟩ := hs
      refine one _ rfl fun cs e => ?_
      subst e
      simp [Cell.okWide, Cell.ok, ht] at hok
    · rename_i ht
      rw [ht] at hok hs ⊢
      obtain ⟨b, rfl, _⟩ := hs
      refine one _ rfl fun cs e => ?_
      subst e
      simp [Cell.okWide, Cell.ok, ht] at hok
    · rename_i e ht
      rw [ht] at hok hs ⊢
      obtain ⟨a, len, cap, rfl, _⟩ := hs
      refine one _ rfl fun cs e => ?_
      subst e
      simp [Cell.okWide, Cell.ok, ht] at hok
    · rename_i fs ht
      rw [ht] at hok hs ⊢
      obtain ⟨cs, rfl, _⟩ := hok
      simp only [VR]
      exact ⟨cs, rfl, hv⟩
    · rename_i m e ht
      rw [ht] at hok hs ⊢
      obtain ⟨cs, rfl, _⟩ := hok
      simp only [VR]
      exact ⟨cs, rfl, hv⟩
    · cases hfl
/-- What an argument's shape is, whatever the fuel. -/
def Arg (P : Program) (h : T AObj) (t : TypeId) (a : AV) : Prop := ∃ n avs, Shp P h n t avs ∧ a = argOf P t avs
theorem build_args {N base : Nat} : ∀ {ts : List TypeId} {vs : List Value} {ds : List (DataW H)} {ps : List MemPlace}, ts.all (flatTy P N) = true → DataW.TrodAll enc P W 0 (fun _ => true) true ts vs ds ps →
    (∀ (j : Nat) t v, ts[j]? = some t → vs[j]? = some v → Value.okWide P W .any base t v) → ∀ f σ, Good P W f σ →
    ∃ f' σ' args, Good P W f' σ' ∧ GExt f σ f' σ' ∧ VRs P f' args vs ∧ args.length = ts.length ∧ ∀ (j : Nat) t, ts[j]? = some t → ∃ a, args[j]? = some a ∧ Arg P σ'.heap t a
  | [], [], [], _, _, _, _, f, σ, hg => ⟨f, σ, [], hg, GExt.refl, by simp [VRs], rfl, fun j t ht => by simp at ht⟩
  | t :: ts, v :: vs, d :: ds, _, hfl, ⟨p, q, ⟨m, h1⟩, h2, _⟩, hok, f, σ, hg => by
    simp only [List.all_cons, Bool.and_eq_true] at hfl
    have h1' := DataW.trod_le (m := max m N) (Nat.le_max_left _ _) h1
    have hf' := flatTy_le hfl.1 (Nat.le_max_right m N)
    obtain ⟨f1, σ1, avs, g1, e1, v1, s1, _⟩ := build _ t _ _ hf' h1' f σ hg
    obtain ⟨f2, σ2, args, g2, e2, v2, l2, s2⟩ := build_args hfl.2 h2 (fun j t v ht hv => hok (j + 1) t v (by simpa using ht) (by simpa using hv)) f1 σ1 g1
    refine ⟨f2, σ2, argOf P t avs :: args, g2, e1.trans e2, ?_, by simp [l2], fun j u hu => ?_⟩
    · simp only [VRs]
      exact ⟨v, vs, rfl, (arg_vr hf' (hok 0 t v rfl rfl) v1 s1).mono e2.sub, v2⟩
    · cases j with
      | zero =>
        simp at hu; subst hu
        exact ⟨_, rfl, _, avs, s1.keep e2.keep, rfl⟩
      | succ j => exact s2 j u (by simpa using hu)
  | [], _ :: _, _, _, _, h, _, _, _, _ => h.elim
  | [], [], _ :: _, _, _, h, _, _, _, _ => h.elim
  | _ :: _, [], _, _, _, h, _, _, _, _ => h.elim
  | _ :: _, _ :: _, [], _, _, h, _, _, _, _ => h.elim
end
end Go.AM
/- Shapes, opened; and a law's contract out of the small machine's word. -/
namespace Go.AM
open Go Go.ChangeShapes
noncomputable section
variable {P : Program} {H : Type} {enc : TypeId × Value → H} {W : World} {f f' : FM} {σ σ' : AS} {h : T AObj} {n : Nat} {t e : TypeId} {avs : List AV} {ft : T AFunc} {O : Ora}

theorem shp_int {k : IntKind} (ht : P.underlying t = some (.int k)) (hs : Shp P h n t avs) : ∃ a, avs = [.int k a] ∧ k.min ≤ a ∧ a ≤ k.max := by
  cases n with
  | zero => exact hs.elim
  | succ n => unfold Shp at hs; rw [ht] at hs; exact hs
theorem shp_bool (ht : P.underlying t = some .bool) (hs : Shp P h n t avs) : ∃ b, avs = [.bool b] := by
  cases n with
  | zero => exact hs.elim
  | succ n => unfold Shp at hs; rw [ht] at hs; exact hs
theorem shp_str (ht : P.underlying t = some .string) (hs : Shp P h n t avs) : ∃ s, avs = [.str s] ∧ s.length ≤ maxLen ∧ ∀ c ∈ s, c < 256 := by
  cases n with
  | zero => exact hs.elim
  | succ n => unfold Shp at hs; rw [ht] at hs; exact hs
theorem shp_struct {fs : Array Field} (ht : P.underlying t = some (.struct fs)) (hs : Shp P h n t avs) : avs.length = P.cellsOf t ∧ ∀ x ∈ fs.toList, ∃ m, Shp P h m x.type ((avs.drop x.offset).take (P.cellsOf x.type)) := by
  cases n with
  | zero => exact hs.elim
  | succ n => unfold Shp at hs; rw [ht] at hs; exact ⟨hs.1, fun x hx => ⟨n, hs.2 x hx⟩⟩
theorem shp_array {m : Nat} (ht : P.underlying t = some (.array m e)) (hs : Shp P h n t avs) : avs.length = P.cellsOf t ∧ ∀ i, i < m → ∃ q, Shp P h q e ((avs.drop (i * P.cellsOf e)).take (P.cellsOf e)) := by
  cases n with
  | zero => exact hs.elim
  | succ n => unfold Shp at hs; rw [ht] at hs; exact ⟨hs.1, fun x hx => ⟨n, hs.2 x hx⟩⟩
theorem shp_slice (ht : P.underlying t = some (.slice e)) (hs : Shp P h n t avs) : ∃ a len cap, avs = [.slc a len cap e .exact] ∧ len ≤ maxLen ∧ (len = 0 ∨ ∃ b c, a = some (b, 0) ∧ h.get b = some (.cells c true) ∧ c.length = len * P.cellsOf e ∧
    ∀ i, i < len → ∃ m, Shp P h m e ((c.drop (i * P.cellsOf e)).take (P.cellsOf e))) := by
  cases n with
  | zero => exact hs.elim
  | succ n =>
    unfold Shp at hs; rw [ht] at hs
    obtain ⟨a, len, cap, h1, h2, h3⟩ := hs
    refine ⟨a, len, cap, h1, h2, ?_⟩
    rcases h3 with h3 | ⟨b, c, h4, h5, h6, h7⟩
    · exact .inl h3
    · exact .inr ⟨b, c, h4, h5, h6, fun i hi => ⟨n, h7 i hi⟩⟩
theorem choose_list {α : Type} {p : Nat → α → Prop} : ∀ (n : Nat), (∀ i, i < n → ∃ a, p i a) → ∃ l : List α, l.length = n ∧ ∀ i a, l[i]? = some a → p i a
  | 0, _ => ⟨[], rfl, fun i a ha => by simp at ha⟩
  | n + 1, hh => by
    obtain ⟨l, h1, h2⟩ := choose_list n (fun i hi => hh i (by omega))
    obtain ⟨a, ha⟩ := hh n (by omega)
    refine ⟨l ++ [a], by simp [h1], fun i b hb => ?_⟩
    rw [List.getElem?_append] at hb
    split at hb
    · exact h2 i b hb
    · rename_i hc
      have : i = n := by
        have := (List.getElem?_eq_some_iff.1 hb).1
        simp at this; omega
      subst this
      rw [h1, Nat.sub_self] at hb
      simp at hb; subst hb; exact ha
/-- A slice whose elements are each so many cells. -/
theorem slv_many {α : Type} {k : Nat} {g : α → List AV} (hk : P.cellsOf e = k) (hs : Shp P h n t avs) (ht : P.underlying t = some (.slice e)) (hel : ∀ m l, Shp P h m e l → ∃ a, l = g a) :
    ∃ (v : AV) (l : List α), avs = [v] ∧ SlV h k (some k) v (l.map fun a => .agg (g a)) ∧ l.length ≤ maxLen := by
  obtain ⟨a, len, cap, rfl, hm, h3⟩ := shp_slice ht hs
  rcases h3 with rfl | ⟨b, c, rfl, hb, hl, hi⟩
  · exact ⟨_, [], rfl, ⟨a, cap, e, .exact, rfl, fun i x hx => by simp at hx⟩, by simp [maxLen]⟩
  · obtain ⟨l, l1, l2⟩ := choose_list (p := fun i a => (c.drop (i * k)).take k = g a) len fun i hlt => by
      obtain ⟨m, hsm⟩ := hi i hlt
      rw [hk] at hsm
      exact hel m _ hsm
    refine ⟨_, l, rfl, ⟨some (b, 0), cap, e, .exact, by rw [List.length_map, l1], fun i x hx => ?_⟩, by omega⟩
    rw [List.getElem?_map] at hx
    cases hy : l[i]? with
    | none => rw [hy] at hx; cases hx
    | some y =>
      rw [hy] at hx; cases hx
      refine ⟨b, 0, rfl, fun n fl => ?_⟩
      have hilt : i < len := by rw [← l1]; exact (List.getElem?_eq_some_iff.1 hy).1
      have hle : i * k + k ≤ c.length := by
        rw [hl, hk]
        have : (i + 1) * k ≤ len * k := Nat.mul_le_mul_right _ (by omega)
        rw [Nat.add_mul] at this; omega
      rw [ldN, hb, rdk_s, rd_E, Nat.zero_add]
      simp only [hle, decide_true, cond_true, Option.map_some]
      rw [l2 i y hy]
/-- A slice of one-cell elements. -/
theorem slv_one {α : Type} {g : α → AV} (hk : P.cellsOf e = 1) (hs : Shp P h n t avs) (ht : P.underlying t = some (.slice e)) {p : α → Prop} (hel : ∀ m l, Shp P h m e l → ∃ a, l = [g a] ∧ p a) :
    ∃ (v : AV) (l : List α), avs = [v] ∧ SlV h 1 none v (l.map g) ∧ l.length ≤ maxLen ∧ ∀ a ∈ l, p a := by
  obtain ⟨a, len, cap, rfl, hm, h3⟩ := shp_slice ht hs
  rcases h3 with rfl | ⟨b, c, rfl, hb, hl, hi⟩
  · exact ⟨_, [], rfl, ⟨a, cap, e, .exact, rfl, fun i x hx => by simp at hx⟩, by simp [maxLen], fun a ha => by cases ha⟩
  · obtain ⟨l, l1, l2⟩ := choose_list (p := fun i a => (c.drop (i * 1)).take 1 = [g a] ∧ p a) len fun i hlt => by
      obtain ⟨m, hsm⟩ := hi i hlt
      rw [hk] at hsm
      exact hel m _ hsm
    refine ⟨_, l, rfl, ⟨some (b, 0), cap, e, .exact, by rw [List.length_map, l1], fun i x hx => ?_⟩, by omega, fun a ha => ?_⟩
    · rw [List.getElem?_map] at hx
      cases hy : l[i]? with
      | none => rw [hy] at hx; cases hx
      | some y =>
        rw [hy] at hx; cases hx
        refine ⟨b, 0, rfl, fun n fl => ?_⟩
        have := (l2 i y hy).1
        rw [Nat.mul_one] at this
        rw [ld1, hb, rd1_s, Nat.zero_add, Nat.mul_one]
        have h0 : ((c.drop i).take 1)[0]? = some (g y) := by rw [this]; rfl
        rw [List.getElem?_take, List.getElem?_drop] at h0
        simpa using h0
    · obtain ⟨i, hi'⟩ := List.getElem?_of_mem ha
      exact (l2 i a hi').2

/-- A law's contract. -/
theorem law_contract (hl : laidOutB P = true) (hS : Sound P (lim ft O)) (hT : TableOK P ft) {g : Nat} {fn : Func} {s : ChangeSpec} {af : AFunc} {rt : TypeId} (hg : ft.get g = some af) (hp : af.pure = true)
    (hread : fn.params.toList.all (fun t => P.readableRec t && decide (t < P.types.size)) = true) (hflat : fn.params.toList.all (flatTy P 6) = true) (hv : s.vars = []) (hrt : fn.resultTypes = #[rt]) (hrt2 : P.underlying rt = some .bool)
    (hspec : ∀ ds : List (DataW H), ds.length = fn.params.toList.length → s.fn H ds = { results := [.lit (.bool true)], args := ds })
    (ho : ∀ a r σ, O (.fn g [] []) (a :: r) σ = none) (hne : fn.params.toList ≠ [])
    (hcall : ∀ (h : T AObj) (n : Nat) (largs : List AV), Fresh h n → largs.length = fn.params.toList.length → (∀ (j : Nat) t, fn.params.toList[j]? = some t → ∃ a, largs[j]? = some a ∧ Arg P h t a) →
      (lim ft O).call (.fn g [] []) largs ⟨h, n, 0⟩ = some (.bool true, ⟨h, n, 0⟩))
    {base : Nat} {args : Array Value} {ds gs : List (DataW H)} {before : List MemPlace} (hval : ∀ (j : Nat) t v, fn.params[j]? = some t → args[j]? = some v → Value.okWide P W .any base t v)
    (hW : DataW.Whole enc P fn.params.toList s.vars false W args.toList ds gs before) :
    Calls P g args W fun e W' => ∃ v, e = .returned v ∧ s.post enc P fn false true false false W args v W' := by
  obtain ⟨p, q, hA, hV, rfl, hfz, hnd⟩ := id hW
  have hV' := hV
  rw [hv] at hV'
  obtain ⟨rfl, rfl⟩ := trodVars_none hV'
  obtain ⟨f, σ, largs, gd, _, v, l, sh⟩ := build_args hflat hA (fun j t v ht hv => hval j t v (by simpa using ht) (by simpa using hv)) _ _ (good_nil (P := P) (W := W))
  obtain ⟨hh, nn, fl⟩ := σ
  have hfl : fl = 0 := gd.fl
  subst hfl
  have hlen : ∀ {ts : List TypeId} {vs : List Value} {ds : List (DataW H)} {p : List MemPlace}, DataW.TrodAll enc P W 0 (fun _ => true) true ts vs ds p → ds.length = ts.length := by
    intro ts
    induction ts with
    | nil =>
      intro vs ds p h
      obtain ⟨_, rfl, _⟩ := trodAll_nil h; rfl
    | cons t ts ih =>
      intro vs ds p h
      obtain ⟨v, vs1, d, ds1, a, b, rfl, rfl, rfl, h1, h2⟩ := trodAll_cons h
      simp [ih h2]
  have hc := hcall hh nn largs (fun b c e => gd.rel.lt b c e) l sh
  have hne2 : ∃ a r, largs = a :: r := by
    cases largs with
    | nil => exact absurd (List.length_eq_zero_iff.1 l.symm) hne
    | cons a r => exact ⟨a, r, rfl⟩
  obtain ⟨a, r, rfl⟩ := hne2
  rw [call_fnE (ho a r _) hg, List.nil_append, List.append_nil] at hc
  refine (calls_pure hS hT hg hp hc v gd.rel gd.dom).mono fun e W' he => ?_
  refine ⟨_, he.1, post_true hl hread hv ?_ hrt hrt2 hW he.2⟩
  rw [List.append_nil]
  exact hspec ds (hlen hA)
end
end Go.AM
