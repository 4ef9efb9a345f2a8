/- Another Ready: with, Latest, Later. -/
import Derived.Test.YtidlikbpbkgbaaaDB
set_option linter.all false
set_option linter.unusedVariables false
set_option linter.unusedSimpArgs false
set_option linter.unusedSectionVars false
namespace Go.AM
open Go
noncomputable section
variable {tm tm' : T AV} {σ σ' : AS} {h h' : T AObj} {n n' fl : Nat} {v : AV} {sl P C B : AV} {g : List Int}

/-- A reach whose logs are ready on another day. -/
def Reach.rdy (r : Reach) (l : Int) : Reach := { r with ready := l }
def la (R : River) (i d : Nat) (l : Int) : Int := bom (R.set i ((R.at i).rdy l)) d
theorem rdy_ok {r : Reach} {days l : Int} (h : RangeOK r days) (h1 : 1 ≤ l) (h2 : l ≤ days) : RangeOK (r.rdy l) days := { h with r1 := h1, r2 := h2 }
theorem rdy_valid {R : River} (hv : Valid R) {i : Nat} (hi : i < R.rs.length) {l : Int} (h1 : 1 ≤ l) (h2 : l ≤ R.days) : Valid (R.set i ((R.at i).rdy l)) := set_valid hv hi rfl (rdy_ok (hv.ok hi) h1 h2)
theorem la_mono {R : River} (hv : Valid R) {i : Nat} (hi : i < R.rs.length) {l m : Int} (h1 : 1 ≤ l) (h2 : l ≤ m) (h3 : m ≤ R.days) (d : Nat) : la R i d m ≤ la R i d l := by
  have hv1 := rdy_valid hv hi (l := l) h1 (by omega)
  have hv2 := rdy_valid hv hi (l := m) (by omega) h3
  refine bom_better hv2.nonneg hv1.nonneg (by rw [set_len, set_len]) (fun k => ?_) d
  rw [set_at hi, set_at hi]
  by_cases c : k = i
  · subst c
    rw [if_pos rfl, if_pos rfl]
    exact ⟨rfl, Int.le_refl _, Int.le_refl _, Int.le_refl _, (hv.ok hi).l1, h2, fun _ h => h⟩
  · rw [if_neg c, if_neg c]; exact Better.refl (hv.nonneg.logs k)
theorem la_own {R : River} (hv : Valid R) {i : Nat} (hi : i < R.rs.length) (d : Nat) : la R i d (R.at i).ready = bom R d := by
  have hv1 := rdy_valid hv hi (l := (R.at i).ready) (hv.ok hi).r1 (hv.ok hi).r2
  have hat : ∀ k, (R.set i ((R.at i).rdy (R.at i).ready)).at k = R.at k := fun k => by
    rw [set_at hi]
    split
    · rename_i e; rw [e]; rfl
    · rfl
  have h1 := bom_better hv1.nonneg hv.nonneg (set_len R i _) (fun k => by rw [hat]; exact Better.refl (hv.nonneg.logs k)) d
  have h2 := bom_better hv.nonneg hv1.nonneg (set_len R i _).symm (fun k => by rw [hat]; exact Better.refl (hv.nonneg.logs k)) d
  unfold la
  omega

theorem reached_call {R : River} {D d i : Nat} (hd : R.days = (D : Int)) (hv : Valid R) (hr : RivAt h v R) (hf : Fresh h n) (h1 : 1 ≤ d) (h2 : d ≤ D) (hi : i < R.rs.length) :
    (lim ft (oraOf 10 true)).call (.fn 32 [] []) [v, .int .i64 (d : Int), .int .i64 (i : Int)] ⟨h, n, fl⟩ = some (.int .i64 0, ⟨h, n, fl⟩) := by
  obtain ⟨sl, rfl, hs⟩ := id hr
  obtain ⟨a, c, e, ck, rfl⟩ := hs.shape (List.length_map _)
  have f1 : Fresh (h.put n (some (.cells [.int .i64 R.days, .slc a R.rs.length c e ck] false))) (n + 1) := hf.put (by omega) (by omega)
  have f2 := f1.put (b := n + 1) (o := some (.cells [.int .i64 (d : Int)] false)) (n' := n + 2) (by omega) (by omega)
  have hs1 := hs.put (o := some (.cells [.int .i64 R.days, .slc a R.rs.length c e ck] false)) hf (Nat.le_refl _)
  have hs2 := hs1.put (o := some (.cells [.int .i64 (d : Int)] false)) f1 (Nat.le_refl _)
  have hsl : SlI ((h.put n (some (.cells [.int .i64 R.days, .slc a R.rs.length c e ck] false))).put (n + 1) (some (.cells [.int .i64 (d : Int)] false))) (.slc (some (n + 1, 0)) 1 1 2 .exact) [(d : Int)] := SlV.block1 (xs := [.int .i64 (d : Int)]) (ro := false) hget_eq
  have c1 := chk36_call (n := n + 2) (fl := n) (v := .agg [.int .i64 R.days, .slc a R.rs.length c e ck]) ⟨_, rfl, hs2⟩ f2 hv hsl (by simp) (by simp [inB]; omega)
  have q1 : ¬ ((i : Int) < 0) := by omega
  have q2 : ¬ ((R.rs.length : Int) ≤ (i : Int)) := by omega
  refine pure_call rfl (by rfl) rfl rfl rfl ?_
  simp -implicitDefEqProofs only [a32, ev0, ev1, ev2, ev3, ev4, ev5, ev6, ev7, evx, if_true, if_false, Nat.reduceEqDiff, Nat.reduceAdd, Nat.reduceMul, Nat.reduceSub, ↓reduceIte, reduceCtorEq, Nat.reduceLeDiff, Nat.reduceLT, Int.reduceLE, Int.reduceLT, Int.reduceEq, Int.reduceNeg, Int.reduceToNat, c1, q1, q2]

/-- slices.Clone of a list of reaches. -/
theorem clone_call {rs : List Reach} (hs : SlV h 8 (some 8) v (rs.map Reach.av)) (hf : Fresh h n) (hfl : fl ≤ n) (hl : 0 < rs.length) (hl8 : rs.length ≤ 1000) :
    ∃ w σ', (lim ft (oraOf 10 true)).call (.fn 53 [] []) [v] ⟨h, n, fl⟩ = some (w, σ') ∧ ∃ h' n' b, σ' = ⟨h', n', fl⟩ ∧ w = .slc (some (b, 0)) rs.length rs.length 31 .tail ∧ n ≤ b ∧ b < n' ∧ Fresh h' n' ∧ Agree n h h' ∧ h'.get b = some (.cells (cellsOf rs) false) := by
  obtain ⟨sb, o, c, e, ck, rfl, hw⟩ := hs.whole hl
  have hsb : sb < n := by
    cases eg : h.get sb with
    | none => rw [eg] at hw; cases hw
    | some ob => exact hf _ _ eg
  have f1 : Fresh (h.put n (some (.cells [] false))) (n + 1) := hf.put (by omega) (by omega)
  have g0 : GrowSl (h.put n (some (.cells [] false))) 31 8 (.slc (some (n, 0)) 0 0 31 .exact) 0 [] := ⟨.inr ⟨n, .exact, rfl, by simp, hget_eq⟩, rfl, rfl⟩
  obtain ⟨h2, ea, eg, ef, ek⟩ := g0.append (fl := fl) (bytes := 64) (k := rs.length) (bx := sb) (ox := o) (c := c) (e := e) (ck := ck) (new := cellsOf rs) (fun b hb => by cases hb; omega) f1
    (by rw [hget_ne (by omega)]; exact hw) hl (by omega) (rc_len _) (rc_all _)
  obtain ⟨b4, ck4, e4, q4⟩ := eg.shape (by omega)
  have hb4 : b4 = n + 1 := by injection e4 with h1; injection h1 with h1; injection h1 with h1; omega
  subst hb4
  refine call_done rfl (by rfl) rfl rfl fun S hS => ?_
  have hno : (some (sb, o) : Option (Nat × Nat)).isNone = false := rfl
  simp -implicitDefEqProofs only [a53, ev0, ev1, ev2, ev3, ev4, ev5, ev6, ev7, evx, if_true, if_false, Nat.reduceEqDiff, Nat.reduceAdd, Nat.reduceMul, Nat.reduceSub, ↓reduceIte, reduceCtorEq, Nat.reduceLeDiff, Nat.reduceLT, Int.reduceLE, Int.reduceLT, Int.reduceEq, Int.reduceNeg, Int.reduceToNat, hno, ea]
  refine hS _ _ _ (.slc (some (n + 1, 0)) rs.length rs.length 31 .tail) (by simp) (by simp -implicitDefEqProofs only [a53, ev0, ev1, ev2, ev3, ev4, ev5, ev6, ev7, evx, if_true, if_false, Nat.reduceEqDiff, Nat.reduceAdd, Nat.reduceMul, Nat.reduceSub, ↓reduceIte, reduceCtorEq, Nat.reduceLeDiff, Nat.reduceLT, Int.reduceLE, Int.reduceLT, Int.reduceEq, Int.reduceNeg, Int.reduceToNat]) ⟨h2, n + 2, n + 1, rfl, rfl, by omega, by omega, ef, fun b hb => ?_, by simpa using q4⟩
  rw [ek _ (by omega) (fun e => by injection e with e; omega), hget_ne (by omega)]
theorem setr_call {b o l lb : Nat} {x : Int} {cs : List AV} (hl : h.get lb = some (.cells [.int .i64 x] false)) (hb : h.get b = some (.cells cs false)) (hfl : fl ≤ b) (ho : o + 8 ≤ cs.length) :
    (lim ft (oraOf 10 true)).call (.fn 35 [] [.ptr (some (lb, 0))]) [.ptr (some (b, o))] ⟨h, n, fl⟩ = some (.tup [], ⟨h.put b (some (.cells (wr cs (o + 7) [.int .i64 x]) false)), n, fl⟩) := by
  refine call_eqn rfl (by rfl) rfl rfl fun R hR => ?_
  have q : o + 8 ≤ cs.length := ho
  simp -implicitDefEqProofs only [a35, ev0, ev1, ev2, ev3, ev4, ev5, ev6, ev7, evx, if_true, if_false, Nat.reduceEqDiff, Nat.reduceAdd, Nat.reduceMul, Nat.reduceSub, ↓reduceIte, reduceCtorEq, Nat.reduceLeDiff, Nat.reduceLT, Int.reduceLE, Int.reduceLT, Int.reduceEq, Int.reduceNeg, Int.reduceToNat, hl, hb, hfl, q]
  exact hR _ _ (by simp) rfl
theorem rc_rdy : ∀ {rs : List Reach} {i : Nat} {x : Int} (hi : i < rs.length), wr (cellsOf rs) (i * 8 + 7) [.int .i64 x] = cellsOf (rs.set i (rs[i].rdy x))
  | [], _, _, h => by simp at h
  | y :: rs, 0, x, _ => by
    show wr (y.cl ++ cellsOf rs) (0 * 8 + 7) [.int .i64 x] = (y.rdy x).cl ++ cellsOf rs
    unfold wr
    simp [Reach.cl, Reach.rdy]
  | y :: rs, i + 1, x, h => by
    have ih := rc_rdy (rs := rs) (i := i) (x := x) (by simpa using h)
    show wr (y.cl ++ cellsOf rs) ((i + 1) * 8 + 7) [.int .i64 x] = y.cl ++ cellsOf (rs.set i ((rs[i]'(by simpa using h)).rdy x))
    rw [← ih]
    unfold wr
    have e1 : (y.cl ++ cellsOf rs).take ((i + 1) * 8 + 7) = y.cl ++ (cellsOf rs).take (i * 8 + 7) := by
      rw [show (i + 1) * 8 + 7 = y.cl.length + (i * 8 + 7) by rw [cl_len]; omega, List.take_append, List.take_of_length_le (by omega), Nat.add_sub_cancel_left]
    have e2 : (y.cl ++ cellsOf rs).drop ((i + 1) * 8 + 7 + [AV.int .i64 x].length) = (cellsOf rs).drop (i * 8 + 7 + [AV.int .i64 x].length) := by
      rw [show (i + 1) * 8 + 7 + [AV.int .i64 x].length = y.cl.length + (i * 8 + 7 + [AV.int .i64 x].length) by rw [cl_len]; simp; omega, List.drop_append, List.drop_eq_nil_of_le (by omega), Nat.add_sub_cancel_left]; rfl
    rw [e1, e2, List.append_assoc]
theorem with_call {R : River} {i lb : Nat} {x : Int} (hv : Valid R) (hr : RivAt h v R) (hf : Fresh h n) (hfl : fl ≤ n) (hi : i < R.rs.length) (hl : h.get lb = some (.cells [.int .i64 x] false)) :
    ∃ w σ', (lim ft (oraOf 10 true)).call (.fn 34 [] []) [v, .int .i64 (i : Int), .fn 35 [] [.ptr (some (lb, 0))]] ⟨h, n, fl⟩ = some (w, σ') ∧ ∃ h' n', σ' = ⟨h', n', fl⟩ ∧ n ≤ n' ∧ Fresh h' n' ∧ Agree n h h' ∧ RivAt h' w (R.set i ((R.at i).rdy x)) := by
  obtain ⟨sl, rfl, hs⟩ := id hr
  obtain ⟨a, c, e, ck, rfl⟩ := hs.shape (List.length_map _)
  have hl8 := hv.l2
  have hlb := hf _ _ hl
  have f1 : Fresh ((h.put n (some (.cells [.int .i64 R.days, .slc a R.rs.length c e ck] false))).put (n + 1) (some (.cells [.int .i64 0, .slc none 0 0 31 .exact] false))) (n + 2) := (hf.put (n' := n + 1) (by omega) (by omega)).put (by omega) (by omega)
  have hs1 : SlV ((h.put n (some (.cells [.int .i64 R.days, .slc a R.rs.length c e ck] false))).put (n + 1) (some (.cells [.int .i64 0, .slc none 0 0 31 .exact] false))) 8 (some 8) (.slc a R.rs.length c e ck) (R.rs.map Reach.av) := hs.agree hf ((Agree.refl.put (Nat.le_refl _)).put (by omega))
  obtain ⟨w, σ1, e1, h1, n1, b, rfl, rfl, b1, b2, f2, a2, g2⟩ := clone_call (fl := fl) hs1 f1 (by omega) (by omega) (by omega)
  have q0 : h1.get n = some (.cells [.int .i64 R.days, .slc a R.rs.length c e ck] false) := by rw [a2 n (by omega), hget_ne (by omega), hget_eq]
  have q1 : h1.get (n + 1) = some (.cells [.int .i64 0, .slc none 0 0 31 .exact] false) := by rw [a2 (n + 1) (by omega), hget_eq]
  have q2 : h1.get lb = some (.cells [.int .i64 x] false) := by rw [a2 lb (by omega), hget_ne (by omega), hget_ne (by omega)]; exact hl
  have hlen : i * 8 + 8 ≤ (cellsOf R.rs).length := by rw [rc_len]; omega
  have e2 := setr_call (h := h1.put n (some (.cells [.int .i64 R.days, .slc (some (b, 0)) R.rs.length R.rs.length 31 .tail] false))) (n := n1) (fl := fl) (b := b) (o := i * 8) (lb := lb) (l := 0) (x := x) (cs := cellsOf R.rs)
    (by rw [hget_ne (by omega)]; exact q2) (by rw [hget_ne (by omega)]; exact g2) (by omega) hlen
  have hrr := rc_rdy (rs := R.rs) (x := x) hi
  have hat : R.at i = R.rs[i] := hv.at hi
  rw [hrr] at e2
  have fl1 : fl ≤ n + 1 := by omega
  have m1 : (n + 1 = b) = False := by simp; omega
  have m2 : (n = b) = False := by simp; omega
  refine call_done rfl (by rfl) rfl rfl fun S hS => ?_
  simp -implicitDefEqProofs only [a34, ev0, ev1, ev2, ev3, ev4, ev5, ev6, ev7, evx, if_true, if_false, Nat.reduceEqDiff, Nat.reduceAdd, Nat.reduceMul, Nat.reduceSub, ↓reduceIte, reduceCtorEq, Nat.reduceLeDiff, Nat.reduceLT, Int.reduceLE, Int.reduceLT, Int.reduceEq, Int.reduceNeg, Int.reduceToNat, e1, q0, q1, hfl, fl1, hi, e2, m1, m2]
  refine hS _ _ _ (.agg [.int .i64 R.days, .slc (some (b, 0)) R.rs.length R.rs.length 31 .tail]) (by simp) (by simp -implicitDefEqProofs only [a34, ev0, ev1, ev2, ev3, ev4, ev5, ev6, ev7, evx, if_true, if_false, Nat.reduceEqDiff, Nat.reduceAdd, Nat.reduceMul, Nat.reduceSub, ↓reduceIte, reduceCtorEq, Nat.reduceLeDiff, Nat.reduceLT, Int.reduceLE, Int.reduceLT, Int.reduceEq, Int.reduceNeg, Int.reduceToNat]) ⟨_, n1, rfl, by omega, ((f2.put (b := n) (n' := n1) (by omega) (by omega)).put (b := b) (n' := n1) (by omega) (by omega)).put (by omega) (by omega), fun y hy => ?_, _, rfl, ?_⟩
  · rw [hget_ne (by omega), hget_ne (by omega), hget_ne (by omega), a2 y (by omega), hget_ne (by omega), hget_ne (by omega)]
  · rw [hat]
    have := SlV.flat (h := ((h1.put n (some (.cells [.int .i64 R.days, .slc (some (b, 0)) R.rs.length R.rs.length 31 .tail] false))).put b (some (.cells (cellsOf (R.rs.set i (R.rs[i].rdy x))) false))).put (n + 1) (some (.cells [.int .i64 R.days, .slc (some (b, 0)) R.rs.length R.rs.length 31 .tail] false)))
      (rs := R.rs.set i (R.rs[i].rdy x)) (b := b) (e := 31) (c := R.rs.length) (ck := .tail) (ro := false) (by rw [hget_ne (by omega), hget_eq])
    rw [List.length_set] at this
    exact this
end
end Go.AM
/- Latest, Later. -/
namespace Go.AM
open Go
noncomputable section
variable {tm tm' : T AV} {σ σ' : AS} {h h' : T AObj} {n n' fl : Nat} {v : AV} {sl P C B : AV} {g : List Int}

theorem latest_L0 {R : River} {D d i nb m0 lb0 : Nat} (hd : R.days = (D : Int)) (hv : Valid R) (hi : i < R.rs.length) (hd1 : 1 ≤ d) (hd2 : d ≤ D) {a : Option (Nat × Nat)} {c e : Nat} {ck : CK}
    (hs : SlV h 8 (some 8) (.slc a R.rs.length c e ck) (R.rs.map Reach.av)) (hbox : h.get nb = some (.cells [.int .i64 R.days, .slc a R.rs.length c e ck] false)) (hf : Fresh h m0) (hnb : nb < lb0)
    (hlb : h.get lb0 = some (.cells [.int .i64 ((R.at i).ready + 1)] false)) (hfl : fl ≤ nb)
    (h1 : tm.get 1 = some (.int .i64 (d : Int))) (h2 : tm.get 2 = some (.int .i64 (i : Int))) (h3 : tm.get 3 = some (.ptr (some (nb, 0)))) (h9 : tm.get 9 = some (.int .i64 (bom R d))) (h10 : tm.get 10 = some (.int .i64 (R.at i).ready)) (h11 : tm.get 11 = some (.ptr (some (lb0, 0)))) :
    Done ((lim ft (oraOf 10 true)).exec (.loop a12_L0) tm ⟨h, m0, fl⟩) fun x tm' σ' => x = .exit 0 ∧ ∃ L : Int, tm'.get 10 = some (.int .i64 L) ∧ (R.at i).ready ≤ L ∧ L ≤ R.days ∧ (∀ l, (R.at i).ready ≤ l → l ≤ L → la R i d l = bom R d) ∧ (L < R.days → la R i d (L + 1) < bom R d) := by
  have ok := hv.ok hi
  have r1 := ok.r1
  have r2 := ok.r2
  have hd40 := hv.d2
  refine loop_up (fun k tm σ => tm.get 1 = some (.int .i64 (d : Int)) ∧ tm.get 2 = some (.int .i64 (i : Int)) ∧ tm.get 3 = some (.ptr (some (nb, 0))) ∧ tm.get 9 = some (.int .i64 (bom R d)) ∧ tm.get 10 = some (.int .i64 ((R.at i).ready + k)) ∧
      ∃ h' m' lb, σ = ⟨h', m', fl⟩ ∧ tm.get 11 = some (.ptr (some (lb, 0))) ∧ Fresh h' m' ∧ m0 ≤ m' ∧ Agree m0 h h' ∧ nb < lb ∧ h'.get lb = some (.cells [.int .i64 ((R.at i).ready + k + 1)] false) ∧ ∀ l, (R.at i).ready ≤ l → l ≤ (R.at i).ready + k → la R i d l = bom R d) _ (R.days - (R.at i).ready).toNat ?_ ?_
    (R.days - (R.at i).ready).toNat 0 tm _ (by omega) ⟨h1, h2, h3, h9, by simpa using h10, h, m0, lb0, rfl, h11, hf, Nat.le_refl _, Agree.refl, hnb, by simpa using hlb, fun l a b => by
      have : l = (R.at i).ready := by omega
      rw [this]; exact la_own hv hi d⟩
  · intro k tm σ hk ⟨h1, h2, h3, h9, h10, h', m', lb, hσ, h11, hf', hm', ha, hnl, hlb, hall⟩ S hI hQ
    subst hσ
    have hbl := hf _ _ hbox
    have hbox' : h'.get nb = some (.cells [.int .i64 R.days, .slc a R.rs.length c e ck] false) := by rw [ha nb hbl]; exact hbox
    have hs' := hs.agree hf ha
    have hle : (R.at i).ready + (k : Int) + 1 ≤ R.days := by omega
    have hlbm := hf' _ _ hlb
    obtain ⟨w, σ1, e1, h4, n4, rfl, g1, g2, g3, g4⟩ := with_call (fl := fl) (v := .agg [.int .i64 R.days, .slc a R.rs.length c e ck]) hv ⟨_, rfl, hs'⟩ hf' (by omega) hi hlb
    obtain ⟨sl4, rfl, hs4⟩ := id g4
    obtain ⟨a4, c4, e4, ck4, rfl⟩ := hs4.shape (List.length_map _)
    have hv4 := rdy_valid hv hi (l := (R.at i).ready + (k : Int) + 1) (by omega) hle
    have f5 : Fresh (h4.put n4 (some (.cells [.int .i64 (R.set i ((R.at i).rdy ((R.at i).ready + (k : Int) + 1))).days, .slc a4 (R.set i ((R.at i).rdy ((R.at i).ready + (k : Int) + 1))).rs.length c4 e4 ck4] false))) (n4 + 1) := g2.put (by omega) (by omega)
    have hs5 := hs4.put (o := some (.cells [.int .i64 (R.set i ((R.at i).rdy ((R.at i).ready + (k : Int) + 1))).days, .slc a4 (R.set i ((R.at i).rdy ((R.at i).ready + (k : Int) + 1))).rs.length c4 e4 ck4] false)) g2 (Nat.le_refl _)
    obtain ⟨v6, σ6, e6, h6, n6, y, P, C, B, rfl, rfl, hy⟩ := early_call (fl := fl) (R := R.set i ((R.at i).rdy ((R.at i).ready + (k : Int) + 1))) (D := D) hd hv4 hs5 f5 (by omega)
    obtain ⟨bb, ck2, rfl, hbb⟩ := hy.boom.shape (by omega)
    have hg : (ints ((List.range (D + 1)).map (bom (R.set i ((R.at i).rdy ((R.at i).ready + (k : Int) + 1))))))[d]? = some (.int .i64 (la R i d ((R.at i).ready + (k : Int) + 1))) := ints_i (by rw [List.getElem?_map, List.getElem?_range (by omega)]; rfl)
    have hlt : d < D + 1 := by omega
    have hfr : ∀ b, b < m' → h6.get b = h'.get b := fun b hb => by rw [hy.frame b (by omega), hget_ne (by omega), g3 b hb]
    have q1 : h6.get lb = some (.cells [.int .i64 ((R.at i).ready + k + 1)] false) := by rw [hfr lb hlbm]; exact hlb
    have hle6 := hy.le
    have fl4 : fl ≤ n4 := by omega
    have fl6 : fl ≤ n6 := by omega
    have hday : (R.set i ((R.at i).rdy ((R.at i).ready + (k : Int) + 1))).days = R.days := rfl
    have hmon := la_mono hv hi (l := (R.at i).ready) (m := (R.at i).ready + (k : Int) + 1) r1 (by omega) hle d
    rw [la_own hv hi] at hmon
    have m1 : (lb = n6) = False := by simp; omega
    rw [hday] at e6
    by_cases q : la R i d ((R.at i).ready + (k : Int) + 1) < bom R d
    · simp -implicitDefEqProofs only [a12_L0, ev0, ev1, ev2, ev3, ev4, ev5, ev6, ev7, evx, if_true, if_false, Nat.reduceEqDiff, Nat.reduceAdd, Nat.reduceMul, Nat.reduceSub, ↓reduceIte, reduceCtorEq, Nat.reduceLeDiff, Nat.reduceLT, Int.reduceLE, Int.reduceLT, Int.reduceEq, Int.reduceNeg, Int.reduceToNat, h1, h2, h3, h9, h10, h11, hlb, hbox', hle, e1, fl4, hday, e6, hy.year, yc4, hbb, hg, hlt, q]
      refine hQ _ _ _ (by simp) ⟨rfl, (R.at i).ready + k, by simp -implicitDefEqProofs only [ev0, ev1, ev2, ev3, ev4, ev5, ev6, ev7, evx, if_true, if_false, Nat.reduceEqDiff, Nat.reduceAdd, Nat.reduceMul, Nat.reduceSub, ↓reduceIte, reduceCtorEq, Nat.reduceLeDiff, Nat.reduceLT, Int.reduceLE, Int.reduceLT, Int.reduceEq, Int.reduceNeg, Int.reduceToNat, h10], by omega, by omega, hall, fun _ => q⟩
    · have hw : wrapF .i64 ((R.at i).ready + (k : Int) + 1 + 1) = (R.at i).ready + ((k + 1 : Nat) : Int) + 1 := by rw [wrap64 (by omega) (by omega)]; omega
      simp -implicitDefEqProofs only [a12_L0, ev0, ev1, ev2, ev3, ev4, ev5, ev6, ev7, evx, if_true, if_false, Nat.reduceEqDiff, Nat.reduceAdd, Nat.reduceMul, Nat.reduceSub, ↓reduceIte, reduceCtorEq, Nat.reduceLeDiff, Nat.reduceLT, Int.reduceLE, Int.reduceLT, Int.reduceEq, Int.reduceNeg, Int.reduceToNat, h1, h2, h3, h9, h10, h11, hlb, hbox', hle, e1, fl4, hday, e6, hy.year, yc4, hbb, hg, hlt, q, q1, fl6, m1, hw]
      refine hI _ _ ⟨by simp -implicitDefEqProofs only [ev0, ev1, ev2, ev3, ev4, ev5, ev6, ev7, evx, if_true, if_false, Nat.reduceEqDiff, Nat.reduceAdd, Nat.reduceMul, Nat.reduceSub, ↓reduceIte, reduceCtorEq, Nat.reduceLeDiff, Nat.reduceLT, Int.reduceLE, Int.reduceLT, Int.reduceEq, Int.reduceNeg, Int.reduceToNat, h1], by simp -implicitDefEqProofs only [ev0, ev1, ev2, ev3, ev4, ev5, ev6, ev7, evx, if_true, if_false, Nat.reduceEqDiff, Nat.reduceAdd, Nat.reduceMul, Nat.reduceSub, ↓reduceIte, reduceCtorEq, Nat.reduceLeDiff, Nat.reduceLT, Int.reduceLE, Int.reduceLT, Int.reduceEq, Int.reduceNeg, Int.reduceToNat, h2], by simp -implicitDefEqProofs only [ev0, ev1, ev2, ev3, ev4, ev5, ev6, ev7, evx, if_true, if_false, Nat.reduceEqDiff, Nat.reduceAdd, Nat.reduceMul, Nat.reduceSub, ↓reduceIte, reduceCtorEq, Nat.reduceLeDiff, Nat.reduceLT, Int.reduceLE, Int.reduceLT, Int.reduceEq, Int.reduceNeg, Int.reduceToNat, h3], by simp -implicitDefEqProofs only [ev0, ev1, ev2, ev3, ev4, ev5, ev6, ev7, evx, if_true, if_false, Nat.reduceEqDiff, Nat.reduceAdd, Nat.reduceMul, Nat.reduceSub, ↓reduceIte, reduceCtorEq, Nat.reduceLeDiff, Nat.reduceLT, Int.reduceLE, Int.reduceLT, Int.reduceEq, Int.reduceNeg, Int.reduceToNat, h9], by rw [show (R.at i).ready + ((k + 1 : Nat) : Int) = (R.at i).ready + k + 1 by omega]; simp -implicitDefEqProofs only [ev0, ev1, ev2, ev3, ev4, ev5, ev6, ev7, evx, if_true, if_false, Nat.reduceEqDiff, Nat.reduceAdd, Nat.reduceMul, Nat.reduceSub, ↓reduceIte, reduceCtorEq, Nat.reduceLeDiff, Nat.reduceLT, Int.reduceLE, Int.reduceLT, Int.reduceEq, Int.reduceNeg, Int.reduceToNat], _, n6 + 1, n6, rfl, by simp -implicitDefEqProofs only [ev0, ev1, ev2, ev3, ev4, ev5, ev6, ev7, evx, if_true, if_false, Nat.reduceEqDiff, Nat.reduceAdd, Nat.reduceMul, Nat.reduceSub, ↓reduceIte, reduceCtorEq, Nat.reduceLeDiff, Nat.reduceLT, Int.reduceLE, Int.reduceLT, Int.reduceEq, Int.reduceNeg, Int.reduceToNat], hy.fresh.put (by omega) (by omega), by omega, fun b hb => ?_, by omega, hget_eq, fun l c1 c2 => ?_⟩
      · rw [hget_ne (by omega), hfr b (by omega), ha b hb]
      · by_cases c3 : l ≤ (R.at i).ready + k
        · exact hall l c1 c3
        · have : l = (R.at i).ready + k + 1 := by omega
          rw [this]; omega
  · intro tm σ ⟨h1, h2, h3, h9, h10, h', m', lb, hσ, h11, hf', hm', ha, hnl, hlb, hall⟩ S hQ
    subst hσ
    have hbl := hf _ _ hbox
    have hbox' : h'.get nb = some (.cells [.int .i64 R.days, .slc a R.rs.length c e ck] false) := by rw [ha nb hbl]; exact hbox
    have hlt : ¬ ((R.at i).ready + (((R.days - (R.at i).ready).toNat : Nat) : Int) + 1 ≤ R.days) := by omega
    simp -implicitDefEqProofs only [a12_L0, ev0, ev1, ev2, ev3, ev4, ev5, ev6, ev7, evx, if_true, if_false, Nat.reduceEqDiff, Nat.reduceAdd, Nat.reduceMul, Nat.reduceSub, ↓reduceIte, reduceCtorEq, Nat.reduceLeDiff, Nat.reduceLT, Int.reduceLE, Int.reduceLT, Int.reduceEq, Int.reduceNeg, Int.reduceToNat, h3, h11, hlb, hbox', hlt]
    exact hQ _ _ _ (by simp) ⟨rfl, _, by simp -implicitDefEqProofs only [ev0, ev1, ev2, ev3, ev4, ev5, ev6, ev7, evx, if_true, if_false, Nat.reduceEqDiff, Nat.reduceAdd, Nat.reduceMul, Nat.reduceSub, ↓reduceIte, reduceCtorEq, Nat.reduceLeDiff, Nat.reduceLT, Int.reduceLE, Int.reduceLT, Int.reduceEq, Int.reduceNeg, Int.reduceToNat, h10], by omega, by omega, hall, fun hh => by omega⟩
theorem latest_call {R : River} {D d i : Nat} (hd : R.days = (D : Int)) (hv : Valid R) (hr : RivAt h v R) (hf : Fresh h n) (h1 : 1 ≤ d) (h2 : d ≤ D) (hi : i < R.rs.length) :
    ∃ L : Int, (lim ft (oraOf 10 true)).call (.fn 12 [] []) [v, .int .i64 (d : Int), .int .i64 (i : Int)] ⟨h, n, fl⟩ = some (.tup [.int .i64 L, .int .i64 0], ⟨h, n, fl⟩) ∧ (R.at i).ready ≤ L ∧ L ≤ R.days ∧ (∀ l, (R.at i).ready ≤ l → l ≤ L → la R i d l = bom R d) ∧ (L < R.days → la R i d (L + 1) < bom R d) := by
  obtain ⟨sl, rfl, hs⟩ := id hr
  have ok := hv.ok hi
  have hd40 := hv.d2
  have r1 := ok.r1
  have r2 := ok.r2
  have hx : (R.rs.map Reach.av)[i]? = some (Reach.av (R.at i)) := by rw [List.getElem?_map, List.getElem?_eq_getElem hi, at_of (List.getElem?_eq_getElem hi)]; rfl
  obtain ⟨sb, o, c, e, ck, rfl, hb2, hkk, hk1⟩ := hs.many hf hx (List.length_map _)
  have hkr := hk1 7 _ rfl
  have f1 : Fresh (h.put n (some (.cells [.int .i64 R.days, .slc (some (sb, o)) R.rs.length c e ck] false))) (n + 1) := hf.put (by omega) (by omega)
  have hs1 := hs.put (o := some (.cells [.int .i64 R.days, .slc (some (sb, o)) R.rs.length c e ck] false)) hf (Nat.le_refl _)
  have c1 := reached_call (fl := n) (v := .agg [.int .i64 R.days, .slc (some (sb, o)) R.rs.length c e ck]) hd hv ⟨_, rfl, hs1⟩ f1 h1 h2 hi
  obtain ⟨v1, σ1, e1, h3, n3, y, P, C, B, rfl, rfl, hy⟩ := early_call (fl := n) hd hv hs1 f1 (by omega)
  obtain ⟨bb, ck2, rfl, hbb⟩ := hy.boom.shape (by omega)
  have hg : (ints ((List.range (D + 1)).map (bom R)))[d]? = some (.int .i64 (bom R d)) := ints_i (by rw [List.getElem?_map, List.getElem?_range (by omega)]; rfl)
  have hlt : d < D + 1 := by omega
  have hle := hy.le
  have m1 := ne_new hb2
  have k1 : h3.get n = some (.cells [.int .i64 R.days, .slc (some (sb, o)) R.rs.length c e ck] false) := by rw [hy.frame n (by omega), hget_eq]
  have k2 : rd1 (h3.get sb) (o + (i * 8 + 7)) = some (.int .i64 (R.at i).ready) := by rw [hy.frame sb (by omega), hget_ne (by omega)]; exact hkr
  have hw : wrapF .i64 ((R.at i).ready + 1) = (R.at i).ready + 1 := wrap64 (by omega) (by omega)
  have fl3 : n ≤ n3 := by omega
  have f3 : Fresh (h3.put n3 (some (.cells [.int .i64 ((R.at i).ready + 1)] false))) (n3 + 1) := hy.fresh.put (by omega) (by omega)
  have hs3 : SlV (h3.put n3 (some (.cells [.int .i64 ((R.at i).ready + 1)] false))) 8 (some 8) (.slc (some (sb, o)) R.rs.length c e ck) (R.rs.map Reach.av) := (hs1.agree f1 hy.frame).put hy.fresh (Nat.le_refl _)
  suffices hh : ∃ L : Int, FnRes a12.results (.tup [.int .i64 L, .int .i64 0]) ((lim ft (oraOf 10 true)).exec a12.body (setArgs ([] ++ [.agg [.int .i64 R.days, .slc (some (sb, o)) R.rs.length c e ck], .int .i64 (d : Int), .int .i64 (i : Int)] ++ []) 0 .e) ⟨h, n, n⟩) ∧ (R.at i).ready ≤ L ∧ L ≤ R.days ∧ (∀ l, (R.at i).ready ≤ l → l ≤ L → la R i d l = bom R d) ∧ (L < R.days → la R i d (L + 1) < bom R d) by
    obtain ⟨L, hL, rest⟩ := hh
    exact ⟨L, pure_call rfl (by rfl) rfl rfl rfl hL, rest⟩
  simp -implicitDefEqProofs only [a12, ev0, ev1, ev2, ev3, ev4, ev5, ev6, ev7, evx, if_true, if_false, Nat.reduceEqDiff, Nat.reduceAdd, Nat.reduceMul, Nat.reduceSub, ↓reduceIte, reduceCtorEq, Nat.reduceLeDiff, Nat.reduceLT, Int.reduceLE, Int.reduceLT, Int.reduceEq, Int.reduceNeg, Int.reduceToNat, c1, m1, hi, hkr, e1, hy.year, yc4, hbb, hg, hlt, k1, k2, hw, fl3]
  generalize hT : T.put _ 11 _ = T0
  obtain ⟨x, tm', ⟨h5, n5, fl5⟩, e5, rfl, L, g10, l1, l2, l3, l4⟩ := latest_L0 (tm := T0) (h := h3.put n3 (some (.cells [.int .i64 ((R.at i).ready + 1)] false))) (nb := n) (m0 := n3 + 1) (lb0 := n3) (fl := n) hd hv hi h1 h2 hs3 (by rw [hget_ne (by omega)]; exact k1) f3 (by omega) hget_eq (Nat.le_refl _)
    (by subst hT; simp -implicitDefEqProofs only [ev0, ev1, ev2, ev3, ev4, ev5, ev6, ev7, evx, if_true, if_false, Nat.reduceEqDiff, Nat.reduceAdd, Nat.reduceMul, Nat.reduceSub, ↓reduceIte, reduceCtorEq, Nat.reduceLeDiff, Nat.reduceLT, Int.reduceLE, Int.reduceLT, Int.reduceEq, Int.reduceNeg, Int.reduceToNat]) (by subst hT; simp -implicitDefEqProofs only [ev0, ev1, ev2, ev3, ev4, ev5, ev6, ev7, evx, if_true, if_false, Nat.reduceEqDiff, Nat.reduceAdd, Nat.reduceMul, Nat.reduceSub, ↓reduceIte, reduceCtorEq, Nat.reduceLeDiff, Nat.reduceLT, Int.reduceLE, Int.reduceLT, Int.reduceEq, Int.reduceNeg, Int.reduceToNat]) (by subst hT; simp -implicitDefEqProofs only [ev0, ev1, ev2, ev3, ev4, ev5, ev6, ev7, evx, if_true, if_false, Nat.reduceEqDiff, Nat.reduceAdd, Nat.reduceMul, Nat.reduceSub, ↓reduceIte, reduceCtorEq, Nat.reduceLeDiff, Nat.reduceLT, Int.reduceLE, Int.reduceLT, Int.reduceEq, Int.reduceNeg, Int.reduceToNat]) (by subst hT; simp -implicitDefEqProofs only [ev0, ev1, ev2, ev3, ev4, ev5, ev6, ev7, evx, if_true, if_false, Nat.reduceEqDiff, Nat.reduceAdd, Nat.reduceMul, Nat.reduceSub, ↓reduceIte, reduceCtorEq, Nat.reduceLeDiff, Nat.reduceLT, Int.reduceLE, Int.reduceLT, Int.reduceEq, Int.reduceNeg, Int.reduceToNat]) (by subst hT; simp -implicitDefEqProofs only [ev0, ev1, ev2, ev3, ev4, ev5, ev6, ev7, evx, if_true, if_false, Nat.reduceEqDiff, Nat.reduceAdd, Nat.reduceMul, Nat.reduceSub, ↓reduceIte, reduceCtorEq, Nat.reduceLeDiff, Nat.reduceLT, Int.reduceLE, Int.reduceLT, Int.reduceEq, Int.reduceNeg, Int.reduceToNat]) (by subst hT; simp -implicitDefEqProofs only [ev0, ev1, ev2, ev3, ev4, ev5, ev6, ev7, evx, if_true, if_false, Nat.reduceEqDiff, Nat.reduceAdd, Nat.reduceMul, Nat.reduceSub, ↓reduceIte, reduceCtorEq, Nat.reduceLeDiff, Nat.reduceLT, Int.reduceLE, Int.reduceLT, Int.reduceEq, Int.reduceNeg, Int.reduceToNat])
  refine ⟨L, ?_, l1, l2, l3, l4⟩
  simp -implicitDefEqProofs only [e5, ev0, ev1, ev2, ev3, ev4, ev5, ev6, ev7, evx, if_true, if_false, Nat.reduceEqDiff, Nat.reduceAdd, Nat.reduceMul, Nat.reduceSub, ↓reduceIte, reduceCtorEq, Nat.reduceLeDiff, Nat.reduceLT, Int.reduceLE, Int.reduceLT, Int.reduceEq, Int.reduceNeg, Int.reduceToNat, g10]
theorem later_call {R : River} {i : Nat} {x : Int} (hv : Valid R) (hr : RivAt h v R) (hf : Fresh h n) (hfl : fl ≤ n) (hi : i < R.rs.length) :
    ∃ w σ', (lim ft (oraOf 10 true)).call (.fn 14 [] []) [v, .int .i64 (i : Int), .int .i64 x] ⟨h, n, fl⟩ = some (w, σ') ∧ ∃ h' n', σ' = ⟨h', n', fl⟩ ∧ n ≤ n' ∧ Fresh h' n' ∧ Agree n h h' ∧ RivAt h' w (R.set i ((R.at i).rdy x)) := by
  obtain ⟨sl, rfl, hs⟩ := id hr
  have hx : (R.rs.map Reach.av)[i]? = some (Reach.av (R.at i)) := by rw [List.getElem?_map, List.getElem?_eq_getElem hi, at_of (List.getElem?_eq_getElem hi)]; rfl
  obtain ⟨sb, o, c, e, ck, rfl, hb2, hkk, hk1⟩ := hs.many hf hx (List.length_map _)
  have m1 := ne_new hb2
  have m2 := ne_newk hb2
  have f1 : Fresh (((h.put n (some (.cells [.int .i64 R.days, .slc (some (sb, o)) R.rs.length c e ck] false))).put (n + 1) (some (.cells [.int .i64 0, .slc none 0 0 31 .exact] false))).put (n + 2) (some (.cells ((R.at i).rdy x).cl false))) (n + 3) :=
    ((hf.put (n' := n + 1) (by omega) (by omega)).put (n' := n + 2) (by omega) (by omega)).put (by omega) (by omega)
  have a1 : Agree n h (((h.put n (some (.cells [.int .i64 R.days, .slc (some (sb, o)) R.rs.length c e ck] false))).put (n + 1) (some (.cells [.int .i64 0, .slc none 0 0 31 .exact] false))).put (n + 2) (some (.cells ((R.at i).rdy x).cl false))) := ((Agree.refl.put (Nat.le_refl _)).put (by omega)).put (by omega)
  obtain ⟨w, σ1, e1, h3, n3, rfl, g1, g2, g3, g4, g5⟩ := changed_call (fl := fl) (x := (R.at i).rdy x) hv (v := .agg [.int .i64 R.days, .slc (some (sb, o)) R.rs.length c e ck]) ⟨_, rfl, hs.agree hf a1⟩ f1 (by omega) hi
  obtain ⟨sl4, rfl, hs4⟩ := id g4
  obtain ⟨a4, c4, e4, ck4, rfl⟩ := hs4.shape (List.length_map _)
  have q1 : h3.get (n + 1) = some (.cells [.int .i64 0, .slc none 0 0 31 .exact] false) := by rw [g3 (n + 1) (by omega), hget_ne (by omega), hget_eq]
  simp only [Reach.av, Reach.cl, Reach.rdy] at e1
  have fl1 : fl ≤ n + 1 := by omega
  have fl2 : fl ≤ n + 2 := by omega
  refine call_done rfl (by rfl) rfl rfl fun S hS => ?_
  simp -implicitDefEqProofs only [a14, ev0, ev1, ev2, ev3, ev4, ev5, ev6, ev7, evx, if_true, if_false, Nat.reduceEqDiff, Nat.reduceAdd, Nat.reduceMul, Nat.reduceSub, ↓reduceIte, reduceCtorEq, Nat.reduceLeDiff, Nat.reduceLT, Int.reduceLE, Int.reduceLT, Int.reduceEq, Int.reduceNeg, Int.reduceToNat, m1, m2, hi, hkk, fl1, fl2, Reach.cl, e1, q1]
  refine hS _ _ _ (.agg [.int .i64 (R.set i ((R.at i).rdy x)).days, .slc a4 (R.set i ((R.at i).rdy x)).rs.length c4 e4 ck4]) (by simp) (by simp -implicitDefEqProofs only [a14, ev0, ev1, ev2, ev3, ev4, ev5, ev6, ev7, evx, if_true, if_false, Nat.reduceEqDiff, Nat.reduceAdd, Nat.reduceMul, Nat.reduceSub, ↓reduceIte, reduceCtorEq, Nat.reduceLeDiff, Nat.reduceLT, Int.reduceLE, Int.reduceLT, Int.reduceEq, Int.reduceNeg, Int.reduceToNat]; rfl) ⟨_, n3, rfl, by omega, g2.put (by omega) (by omega), fun b hb => ?_, ?_⟩
  · rw [hget_ne (by omega), g3 b (by omega)]; exact a1 b hb
  · refine ⟨_, rfl, hs4.keep fun b hb => ?_⟩
    have := g5 _ _ b rfl hb
    rw [hget_ne (by omega)]
end
end Go.AM
