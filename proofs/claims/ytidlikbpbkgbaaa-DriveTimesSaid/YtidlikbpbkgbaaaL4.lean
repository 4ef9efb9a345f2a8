/- DriveTimes: as many times as great. -/
import Derived.Test.YtidlikbpbkgbaaaDE
import Derived.Test.YtidlikbpbkgbaaaL5
set_option linter.all false
set_option linter.unusedVariables false
set_option linter.unusedSimpArgs false
set_option linter.unusedSectionVars false
namespace Go.AM
open Go
noncomputable section
variable {tm tm' : T AV} {σ σ' : AS} {h h' : T AObj} {n n' fl : Nat} {v w : AV} {sl P C B : AV} {g : List Int}

theorem tim_L0 {R : River} {t : Int} {m0 : Nat} {u2 u3 u4 : AV} (hv : Valid R) (ht : 1 ≤ t ∧ t ≤ 5) (hs : SlV h 8 (some 8) sl (R.rs.map Reach.av)) (hf : Fresh h m0) (hn : n + 1 < m0) (hfl : fl ≤ n)
    (hsn : ∀ b, blkOf sl = some b → b < n)
    (hb : h.get n = some (.cells [.int .i64 R.days, sl] false)) (hb1 : h.get (n + 1) = some (.cells [.int .i64 R.days, .slc none 0 0 31 .exact] false))
    (h5 : tm.get 5 = some (.ptr (some (n, 0)))) (h11 : tm.get 11 = some (.int .i64 t)) (h12 : tm.get 12 = some (.ptr (some (n + 1, 0)))) (h13 : tm.get 13 = some (.int .i64 0)) (h2 : tm.get 2 = some u2) (h3 : tm.get 3 = some u3) (h4 : tm.get 4 = some u4) :
    Done ((lim ft (oraOf 10 true)).exec (.loop a4_L0) tm ⟨h, m0, fl⟩) fun x tm' σ' => x = .exit 0 ∧ ∃ h2 m2 Q, σ' = ⟨h2, m2, fl⟩ ∧ m0 ≤ m2 ∧ Fresh h2 m2 ∧ Agree (n + 1) h h2 ∧
      h2.get (n + 1) = some (.cells [.int .i64 R.days, Q] false) ∧ GrowSl h2 31 8 Q R.rs.length (cellsOf (R.timed t).rs) ∧ tm'.get 5 = some (.ptr (some (n, 0))) ∧ tm'.get 11 = some (.int .i64 t) ∧ tm'.get 12 = some (.ptr (some (n + 1, 0))) ∧ tm'.get 2 = some u2 ∧ tm'.get 3 = some u3 ∧ tm'.get 4 = some u4 := by
  have hl1 := hv.l1
  have hl8 := hv.l2
  obtain ⟨a, c, e, ck, rfl⟩ := hs.shape (List.length_map _)
  refine loop_up (fun i tm σ => tm.get 5 = some (.ptr (some (n, 0))) ∧ tm.get 11 = some (.int .i64 t) ∧ tm.get 12 = some (.ptr (some (n + 1, 0))) ∧ tm.get 13 = some (.int .i64 (i : Int)) ∧ tm.get 2 = some u2 ∧ tm.get 3 = some u3 ∧ tm.get 4 = some u4 ∧
      ∃ h2 m2 Q, σ = ⟨h2, m2, fl⟩ ∧ m0 ≤ m2 ∧ Fresh h2 m2 ∧ Agree (n + 1) h h2 ∧ h2.get (n + 1) = some (.cells [.int .i64 R.days, Q] false) ∧ GrowSl h2 31 8 Q i (cellsOf ((R.rs.take i).map (Reach.timed t))) ∧ ∀ b, blkOf Q = some b → m0 ≤ b) _ R.rs.length ?_ ?_
    R.rs.length 0 tm _ (by simp) ⟨h5, h11, h12, h13, h2, h3, h4, h, m0, _, rfl, Nat.le_refl _, hf, Agree.refl, hb1, GrowSl.nil, fun b e => by cases e⟩
  · intro i tm σ hi ⟨h5, h11, h12, h13, h2, h3, h4, hh, m, Q, hσ, hm, hfm, ha, hx, hg, hq⟩ S hI hQ
    subst hσ
    have hlt : ((i : Int) < (R.rs.length : Int)) := by omega
    have hw : wrapF .i64 ((i : Int) + 1) = ((i + 1 : Nat) : Int) := by rw [wrap64 (by omega) (by omega)]; omega
    have hsm := hs.keep (h' := hh) fun b hb => ha b (by have := hsn b hb; omega)
    have hxi : (R.rs.map Reach.av)[i]? = some (Reach.av (R.at i)) := by rw [List.getElem?_map, List.getElem?_eq_getElem hi, at_of (List.getElem?_eq_getElem hi)]; rfl
    obtain ⟨sb, o, c', e', ck', q1, q2, q3, _⟩ := hsm.many hfm hxi (List.length_map _)
    have q0 : a = some (sb, o) := by injection q1
    subst q0
    have b0 : hh.get n = some (.cells [.int .i64 R.days, .slc (some (sb, o)) R.rs.length c e ck] false) := by rw [ha n (by omega), hb]
    have ok := hv.ok hi
    have o1 := ok.p1
    have o2 := ok.p2
    have o7 := ok.l1
    have o8 := ok.l2
    have p1 : 0 ≤ t * (R.at i).pass := Int.mul_nonneg (by omega) o1
    have p2 : t * (R.at i).pass ≤ 5 * 1000 := Int.mul_le_mul ht.2 o2 o1 (by omega)
    have p3 : 0 ≤ t * (R.at i).logs := Int.mul_nonneg (by omega) o7
    have p4 : t * (R.at i).logs ≤ 5 * 10000 := Int.mul_le_mul ht.2 o8 o7 (by omega)
    have v1 : wrapF .i64 (t * (R.at i).pass) = t * (R.at i).pass := wrap64 (by omega) (by omega)
    have v2 : wrapF .i64 (t * (R.at i).logs) = t * (R.at i).logs := wrap64 (by omega) (by omega)
    have g2 := (hg.put (b := m) (o := some (.cells ((R.at i).timed t).cl false)) (fun e => by have := hg.lt hfm e; omega)).put (b := m + 1) (o := some (.cells ((R.at i).timed t).cl false)) (fun e => by have := hg.lt hfm e; omega)
    have f2 := (hfm.put (b := m) (o := some (.cells ((R.at i).timed t).cl false)) (n' := m + 1) (by omega) (by omega)).put (b := m + 1) (o := some (.cells ((R.at i).timed t).cl false)) (n' := m + 2) (by omega) (by omega)
    obtain ⟨h4', ea, eg, ef, ek⟩ := g2.append (fl := fl) (bytes := 64) (k := 1) (bx := m + 1) (ox := 0) (c := 1) (e := 31) (ck := .exact) (new := ((R.at i).timed t).cl) (fun b hb' => by have := hq b hb'; omega) f2
      (by rw [hget_eq, rdk_s]; rfl) (by omega) (by omega) rfl rfl
    have hbx : h4'.get (n + 1) = some (.cells [.int .i64 R.days, Q] false) := by rw [ek _ (by omega) (fun e => by have := hq _ e; omega), hget_ne (by omega), hget_ne (by omega), hx]
    have nm : (n = m) = False := by simp; omega
    have nm1 : (n = m + 1) = False := by simp; omega
    have xm : (n + 1 = m) = False := by simp; omega
    have sm : (sb = m) = False := by simp; omega
    have flm : fl ≤ m := by omega
    have fln : fl ≤ n + 1 := by omega
    simp only [Reach.timed, Reach.cl] at ea
    simp -implicitDefEqProofs only [a4_L0, ev0, ev1, ev2, ev3, ev4, ev5, ev6, ev7, evx, if_true, if_false, Nat.reduceEqDiff, Nat.reduceAdd, Nat.reduceMul, Nat.reduceSub, ↓reduceIte, reduceCtorEq, Nat.reduceLeDiff, Nat.reduceLT, Int.reduceLE, Int.reduceLT, Int.reduceEq, Int.reduceNeg, Int.reduceToNat, h2, h3, h4, h5, h11, h12, h13, hlt, hw, b0, hx, hi, q3, v1, v2, nm, nm1, xm, sm, flm, fln, ea, hbx]
    refine hI _ _ ⟨by simp -implicitDefEqProofs only [ev0, ev1, ev2, ev3, ev4, ev5, ev6, ev7, evx, if_true, if_false, Nat.reduceEqDiff, Nat.reduceAdd, Nat.reduceMul, Nat.reduceSub, ↓reduceIte, reduceCtorEq, Nat.reduceLeDiff, Nat.reduceLT, Int.reduceLE, Int.reduceLT, Int.reduceEq, Int.reduceNeg, Int.reduceToNat, h5], by simp -implicitDefEqProofs only [ev0, ev1, ev2, ev3, ev4, ev5, ev6, ev7, evx, if_true, if_false, Nat.reduceEqDiff, Nat.reduceAdd, Nat.reduceMul, Nat.reduceSub, ↓reduceIte, reduceCtorEq, Nat.reduceLeDiff, Nat.reduceLT, Int.reduceLE, Int.reduceLT, Int.reduceEq, Int.reduceNeg, Int.reduceToNat, h11], by simp -implicitDefEqProofs only [ev0, ev1, ev2, ev3, ev4, ev5, ev6, ev7, evx, if_true, if_false, Nat.reduceEqDiff, Nat.reduceAdd, Nat.reduceMul, Nat.reduceSub, ↓reduceIte, reduceCtorEq, Nat.reduceLeDiff, Nat.reduceLT, Int.reduceLE, Int.reduceLT, Int.reduceEq, Int.reduceNeg, Int.reduceToNat, h12], by simp -implicitDefEqProofs only [ev0, ev1, ev2, ev3, ev4, ev5, ev6, ev7, evx, if_true, if_false, Nat.reduceEqDiff, Nat.reduceAdd, Nat.reduceMul, Nat.reduceSub, ↓reduceIte, reduceCtorEq, Nat.reduceLeDiff, Nat.reduceLT, Int.reduceLE, Int.reduceLT, Int.reduceEq, Int.reduceNeg, Int.reduceToNat], by simp -implicitDefEqProofs only [ev0, ev1, ev2, ev3, ev4, ev5, ev6, ev7, evx, if_true, if_false, Nat.reduceEqDiff, Nat.reduceAdd, Nat.reduceMul, Nat.reduceSub, ↓reduceIte, reduceCtorEq, Nat.reduceLeDiff, Nat.reduceLT, Int.reduceLE, Int.reduceLT, Int.reduceEq, Int.reduceNeg, Int.reduceToNat, h2], by simp -implicitDefEqProofs only [ev0, ev1, ev2, ev3, ev4, ev5, ev6, ev7, evx, if_true, if_false, Nat.reduceEqDiff, Nat.reduceAdd, Nat.reduceMul, Nat.reduceSub, ↓reduceIte, reduceCtorEq, Nat.reduceLeDiff, Nat.reduceLT, Int.reduceLE, Int.reduceLT, Int.reduceEq, Int.reduceNeg, Int.reduceToNat, h3], by simp -implicitDefEqProofs only [ev0, ev1, ev2, ev3, ev4, ev5, ev6, ev7, evx, if_true, if_false, Nat.reduceEqDiff, Nat.reduceAdd, Nat.reduceMul, Nat.reduceSub, ↓reduceIte, reduceCtorEq, Nat.reduceLeDiff, Nat.reduceLT, Int.reduceLE, Int.reduceLT, Int.reduceEq, Int.reduceNeg, Int.reduceToNat, h4], _, m + 3, .slc (some (m + 2, 0)) (i + 1) (i + 1) 31 .tail, rfl, by omega, ef.put (by omega) (by omega), fun b hb' => ?_, by rw [hget_eq], ?_, fun b e => by cases e; omega⟩
    · rw [hget_ne (by omega), ek b (by omega) (fun e => by have := hq b e; omega), hget_ne (by omega), hget_ne (by omega)]; exact ha b hb'
    · rw [rc_snoc hi]
      have : R.rs[i] = R.at i := (at_of (List.getElem?_eq_getElem hi)).symm
      rw [this]
      exact eg.put (fun e => by cases e; omega)
  · intro tm σ ⟨h5, h11, h12, h13, h2, h3, h4, hh, m, Q, hσ, hm, hfm, ha, hx, hg, hq⟩ S hQ
    subst hσ
    have hlt : ¬ ((R.rs.length : Int) < (R.rs.length : Int)) := by omega
    have b0 : hh.get n = some (.cells [.int .i64 R.days, .slc a R.rs.length c e ck] false) := by rw [ha n (by omega), hb]
    simp -implicitDefEqProofs only [a4_L0, ev0, ev1, ev2, ev3, ev4, ev5, ev6, ev7, evx, if_true, if_false, Nat.reduceEqDiff, Nat.reduceAdd, Nat.reduceMul, Nat.reduceSub, ↓reduceIte, reduceCtorEq, Nat.reduceLeDiff, Nat.reduceLT, Int.reduceLE, Int.reduceLT, Int.reduceEq, Int.reduceNeg, Int.reduceToNat, h5, h13, hlt, b0]
    rw [List.take_length] at hg
    exact hQ _ _ _ (by simp) ⟨rfl, hh, m, Q, rfl, hm, hfm, ha, hx, hg, by simp -implicitDefEqProofs only [ev0, ev1, ev2, ev3, ev4, ev5, ev6, ev7, evx, if_true, if_false, Nat.reduceEqDiff, Nat.reduceAdd, Nat.reduceMul, Nat.reduceSub, ↓reduceIte, reduceCtorEq, Nat.reduceLeDiff, Nat.reduceLT, Int.reduceLE, Int.reduceLT, Int.reduceEq, Int.reduceNeg, Int.reduceToNat, h5], by simp -implicitDefEqProofs only [ev0, ev1, ev2, ev3, ev4, ev5, ev6, ev7, evx, if_true, if_false, Nat.reduceEqDiff, Nat.reduceAdd, Nat.reduceMul, Nat.reduceSub, ↓reduceIte, reduceCtorEq, Nat.reduceLeDiff, Nat.reduceLT, Int.reduceLE, Int.reduceLT, Int.reduceEq, Int.reduceNeg, Int.reduceToNat, h11], by simp -implicitDefEqProofs only [ev0, ev1, ev2, ev3, ev4, ev5, ev6, ev7, evx, if_true, if_false, Nat.reduceEqDiff, Nat.reduceAdd, Nat.reduceMul, Nat.reduceSub, ↓reduceIte, reduceCtorEq, Nat.reduceLeDiff, Nat.reduceLT, Int.reduceLE, Int.reduceLT, Int.reduceEq, Int.reduceNeg, Int.reduceToNat, h12], by simp -implicitDefEqProofs only [ev0, ev1, ev2, ev3, ev4, ev5, ev6, ev7, evx, if_true, if_false, Nat.reduceEqDiff, Nat.reduceAdd, Nat.reduceMul, Nat.reduceSub, ↓reduceIte, reduceCtorEq, Nat.reduceLeDiff, Nat.reduceLT, Int.reduceLE, Int.reduceLT, Int.reduceEq, Int.reduceNeg, Int.reduceToNat, h2], by simp -implicitDefEqProofs only [ev0, ev1, ev2, ev3, ev4, ev5, ev6, ev7, evx, if_true, if_false, Nat.reduceEqDiff, Nat.reduceAdd, Nat.reduceMul, Nat.reduceSub, ↓reduceIte, reduceCtorEq, Nat.reduceLeDiff, Nat.reduceLT, Int.reduceLE, Int.reduceLT, Int.reduceEq, Int.reduceNeg, Int.reduceToNat, h3], by simp -implicitDefEqProofs only [ev0, ev1, ev2, ev3, ev4, ev5, ev6, ev7, evx, if_true, if_false, Nat.reduceEqDiff, Nat.reduceAdd, Nat.reduceMul, Nat.reduceSub, ↓reduceIte, reduceCtorEq, Nat.reduceLeDiff, Nat.reduceLT, Int.reduceLE, Int.reduceLT, Int.reduceEq, Int.reduceNeg, Int.reduceToNat, h4]⟩

theorem FirstOf.congr {b b' : Nat → Bool} {N : Nat} {r : Int} (h : FirstOf b N r) (he : ∀ j, b j = b' j) : FirstOf b' N r := by
  have : b = b' := funext he
  rw [← this]; exact h
theorem times_call {R : River} {times day logs : Int} {bs : List Int} (hr : RivAt h v R) (hf : Fresh h n) (b0 : 0 ≤ times ∧ times ≤ 255) (b1 : 0 ≤ day ∧ day ≤ 255) (hsb : SlB h w bs) (hb : ∀ a ∈ bs, 0 ≤ a ∧ a ≤ 255) (b4 : 0 ≤ logs ∧ logs ≤ 65535) :
    (lim ft (oraOf 10 true)).call (.fn 4 [] []) [v, .int .u8 times, .int .u8 day, w, .int .u16 logs] ⟨h, n, fl⟩ = some (.bool true, ⟨h, n, fl⟩) := by
  obtain ⟨sl, rfl, hs⟩ := id hr
  obtain ⟨a, c, e, ck, rfl⟩ := hs.shape (List.length_map _)
  obtain ⟨a2, c2, e2, ck2, rfl⟩ := SlV.shape hsb (List.length_map _)
  refine pure_call rfl (by rfl) rfl rfl rfl ?_
  have f1 : Fresh (h.put n (some (.cells [.int .i64 R.days, .slc a R.rs.length c e ck] false))) (n + 1) := hf.put (by omega) (by omega)
  have r1 := hr.agree hf (Agree.refl.put (b := n) (o := some (.cells [.int .i64 R.days, .slc a R.rs.length c e ck] false)) (Nat.le_refl n))
  have e9 := fine_call (fl := n) r1 f1
  have e10 := @works_call
  by_cases hv : Valid R
  · by_cases hl20 : (20 : Int) < (bs.length : Int)
    · simp -implicitDefEqProofs only [a4, ev0, ev1, ev2, ev3, ev4, ev5, ev6, ev7, evx, if_true, if_false, Nat.reduceEqDiff, Nat.reduceAdd, Nat.reduceMul, Nat.reduceSub, ↓reduceIte, reduceCtorEq, Nat.reduceLeDiff, Nat.reduceLT, Int.reduceLE, Int.reduceLT, Int.reduceEq, Int.reduceNeg, Int.reduceToNat, e9, hv, hl20, e10]
    have hd1 := hv.d1
    have hl1 := hv.l1
    have hd40 := hv.d2
    obtain ⟨D, hd⟩ : ∃ D : Nat, R.days = D := ⟨R.days.toNat, by omega⟩
    have wr1 : wrapF .i64 times = times := wrap64 (by omega) (by omega)
    obtain ⟨k0, hk0, hk0l, hk0u⟩ := tmod_small (a := times) (b := 5) b0.1 (by omega)
    obtain ⟨t, ht⟩ : ∃ t : Int, 1 + k0 = t := ⟨_, rfl⟩
    have ht1 : 1 ≤ t ∧ t ≤ 5 := by omega
    have wr2 : wrapF .i64 (1 + k0) = t := by rw [wrap64 (by omega) (by omega), ht]
    have f2 := f1.put (b := n + 1) (o := some (.cells [.int .i64 R.days, .slc none 0 0 31 .exact] false)) (n' := n + 2) (by omega) (by omega)
    have a2' : Agree n h ((h.put n (some (.cells [.int .i64 R.days, .slc a R.rs.length c e ck] false))).put (n + 1) (some (.cells [.int .i64 R.days, .slc none 0 0 31 .exact] false))) := (Agree.refl.put (Nat.le_refl n)).put (by omega)
    have hs2 := hs.agree hf a2'
    have hbn : ∀ b, blkOf (.slc a R.rs.length c e ck) = some b → b < n := fun b hb => by
      obtain ⟨a2, c2, e2, ck2, he, hl2⟩ := hs
      have ha : a = a2 := by injection he
      subst ha
      have hx : (R.rs.map Reach.av)[0]? = some (Reach.av R.rs[0]) := by rw [List.getElem?_map, List.getElem?_eq_getElem (by omega)]; rfl
      obtain ⟨b', o', rfl, hld⟩ := hl2 0 _ hx
      cases hb
      exact load_lt hf hld
    simp -implicitDefEqProofs only [a4, ev0, ev1, ev2, ev3, ev4, ev5, ev6, ev7, evx, if_true, if_false, Nat.reduceEqDiff, Nat.reduceAdd, Nat.reduceMul, Nat.reduceSub, ↓reduceIte, reduceCtorEq, Nat.reduceLeDiff, Nat.reduceLT, Int.reduceLE, Int.reduceLT, Int.reduceEq, Int.reduceNeg, Int.reduceToNat, e9, hv, hl20, wr1, hk0, wr2]
    generalize hT : T.put _ 13 _ = T0
    obtain ⟨x, tm2, σ2, el, rfl, h2, m2, Q, rfl, hm2, hf2, ha2, hx2, hg2, t5, t11, t12, t2, t3, t4⟩ := tim_L0 (tm := T0) (fl := n) (n := n) (m0 := n + 2) (u2 := .int .u8 day) (u3 := .slc a2 bs.length c2 e2 ck2) (u4 := .int .u16 logs) (t := t) hv ht1 hs2 f2 (by omega) (Nat.le_refl n) hbn (by rw [hget_ne (by omega), hget_eq]) hget_eq
      (by subst hT; simp -implicitDefEqProofs only [ev0, ev1, ev2, ev3, ev4, ev5, ev6, ev7, evx, if_true, if_false, Nat.reduceEqDiff, Nat.reduceAdd, Nat.reduceMul, Nat.reduceSub, ↓reduceIte, reduceCtorEq, Nat.reduceLeDiff, Nat.reduceLT, Int.reduceLE, Int.reduceLT, Int.reduceEq, Int.reduceNeg, Int.reduceToNat]) (by subst hT; simp -implicitDefEqProofs only [ev0, ev1, ev2, ev3, ev4, ev5, ev6, ev7, evx, if_true, if_false, Nat.reduceEqDiff, Nat.reduceAdd, Nat.reduceMul, Nat.reduceSub, ↓reduceIte, reduceCtorEq, Nat.reduceLeDiff, Nat.reduceLT, Int.reduceLE, Int.reduceLT, Int.reduceEq, Int.reduceNeg, Int.reduceToNat]) (by subst hT; simp -implicitDefEqProofs only [ev0, ev1, ev2, ev3, ev4, ev5, ev6, ev7, evx, if_true, if_false, Nat.reduceEqDiff, Nat.reduceAdd, Nat.reduceMul, Nat.reduceSub, ↓reduceIte, reduceCtorEq, Nat.reduceLeDiff, Nat.reduceLT, Int.reduceLE, Int.reduceLT, Int.reduceEq, Int.reduceNeg, Int.reduceToNat]) (by subst hT; simp -implicitDefEqProofs only [ev0, ev1, ev2, ev3, ev4, ev5, ev6, ev7, evx, if_true, if_false, Nat.reduceEqDiff, Nat.reduceAdd, Nat.reduceMul, Nat.reduceSub, ↓reduceIte, reduceCtorEq, Nat.reduceLeDiff, Nat.reduceLT, Int.reduceLE, Int.reduceLT, Int.reduceEq, Int.reduceNeg, Int.reduceToNat]) (by subst hT; simp -implicitDefEqProofs only [ev0, ev1, ev2, ev3, ev4, ev5, ev6, ev7, evx, if_true, if_false, Nat.reduceEqDiff, Nat.reduceAdd, Nat.reduceMul, Nat.reduceSub, ↓reduceIte, reduceCtorEq, Nat.reduceLeDiff, Nat.reduceLT, Int.reduceLE, Int.reduceLT, Int.reduceEq, Int.reduceNeg, Int.reduceToNat]) (by subst hT; simp -implicitDefEqProofs only [ev0, ev1, ev2, ev3, ev4, ev5, ev6, ev7, evx, if_true, if_false, Nat.reduceEqDiff, Nat.reduceAdd, Nat.reduceMul, Nat.reduceSub, ↓reduceIte, reduceCtorEq, Nat.reduceLeDiff, Nat.reduceLT, Int.reduceLE, Int.reduceLT, Int.reduceEq, Int.reduceNeg, Int.reduceToNat]) (by subst hT; simp -implicitDefEqProofs only [ev0, ev1, ev2, ev3, ev4, ev5, ev6, ev7, evx, if_true, if_false, Nat.reduceEqDiff, Nat.reduceAdd, Nat.reduceMul, Nat.reduceSub, ↓reduceIte, reduceCtorEq, Nat.reduceLeDiff, Nat.reduceLT, Int.reduceLE, Int.reduceLT, Int.reduceEq, Int.reduceNeg, Int.reduceToNat])
    have aA : Agree n h h2 := a2'.trans (ha2.mono (by omega))
    have rx : RivAt h2 (.agg [.int .i64 R.days, Q]) (R.timed t) := ⟨Q, rfl, hg2.riv (by rw [River.timed, mapR_len]; omega)⟩
    have r2 : RivAt h2 (.agg [.int .i64 R.days, .slc a R.rs.length c e ck]) R := hr.agree hf aA
    have hb0 : h2.get n = some (.cells [.int .i64 R.days, .slc a R.rs.length c e ck] false) := by rw [ha2 n (by omega), hget_ne (by omega), hget_eq]
    have e8 := fine_call (fl := n) rx hf2
    simp -implicitDefEqProofs only [el, ev0, ev1, ev2, ev3, ev4, ev5, ev6, ev7, evx, if_true, if_false, Nat.reduceEqDiff, Nat.reduceAdd, Nat.reduceMul, Nat.reduceSub, ↓reduceIte, reduceCtorEq, Nat.reduceLeDiff, Nat.reduceLT, Int.reduceLE, Int.reduceLT, Int.reduceEq, Int.reduceNeg, Int.reduceToNat, t2, t3, t4, t5, t11, t12, hx2]
    by_cases hv2 : Valid (R.timed t)
    · have e11 := day_call (n := m2) (fl := n) (k := .u8) (d := day) r2 hv b1.1 b1.2
      obtain ⟨d, hdd, hdl, hdu⟩ := day_of hv hd b1.1
      rw [hdd] at e11
      have hsb2 : SlB h2 (.slc a2 bs.length c2 e2 ck2) bs := SlV.agree hsb hf aA
      obtain ⟨F, σ3, e12, h3, m3, l, rfl, g1, g2, g3, g4, g5, g6⟩ := firsts_call (fl := n) (d := d) hv r2 hf2 (by omega) (by omega) (by omega) hb hsb2
      have r3 := r2.agree hf2 g3
      have rx3 := rx.agree hf2 g3
      have c0 : h3.get n = some (.cells [.int .i64 R.days, .slc a R.rs.length c e ck] false) := by rw [g3 n (by omega), hb0]
      have c1 : h3.get (n + 1) = some (.cells [.int .i64 R.days, Q] false) := by rw [g3 _ (by omega), hx2]
      have e13 := most_call (fl := n) hd hv r3 g2 hdl hdu
      have e14 := most_call (fl := n) (d := d) (D := D) (R := R.timed t) (by exact hd) hv2 rx3 g2 hdl hdu
      rw [bom_timed (by omega)] at e14
      have e15 := cut_call (fl := n) (d := d) hv r3 g2 hdl (by omega) g5 g6 g4
      have e16 := cut_call (fl := n) (d := d) (R := R.timed t) hv2 rx3 g2 hdl (by show (d : Int) ≤ R.days; omega) (by rw [River.timed, mapR_len]; exact g5) g6 g4
      rw [cut_timed] at e16
      have wl : wrapF .i64 logs = logs := wrap64 (by omega) (by omega)
      have p1 : 0 ≤ t * logs := Int.mul_nonneg (by omega) b4.1
      have p2 : t * logs ≤ 5 * 65535 := Int.mul_le_mul ht1.2 b4.2 b4.1 (by omega)
      have wtl : wrapF .i64 (t * logs) = t * logs := wrap64 (by omega) (by omega)
      obtain ⟨ra, e17, u1⟩ := by_call (fl := n) (logs := logs) hd hv r3 g2 b4.1
      obtain ⟨rb, e18, u2⟩ := by_call (fl := n) (logs := t * logs) (D := D) (R := R.timed t) (by exact hd) hv2 rx3 g2 p1
      have hab : ra = rb := FirstOf.uniq u1 (u2.congr fun j => by
        rw [bom_timed (by omega), decide_eq_decide]
        constructor
        · intro hh
          exact Int.le_of_mul_le_mul_left hh (by omega)
        · intro hh
          exact Int.mul_le_mul_of_nonneg_left hh (by omega))
      subst hab
      have bl := bom_le hv d
      have q1 : 0 ≤ t * bom R d := Int.mul_nonneg (by omega) bl.1
      have q2 : t * bom R d ≤ 5 * 10240000 := Int.mul_le_mul ht1.2 bl.2 bl.1 (by omega)
      have cu : 0 ≤ cutB R l d ∧ cutB R l d ≤ 51000 * R.rs.length := cut_up hv _ (Nat.le_refl _)
      have hl8 := hv.l2
      have q3 : 0 ≤ t * cutB R l d := Int.mul_nonneg (by omega) cu.1
      have q4 : t * cutB R l d ≤ 5 * 408000 := Int.mul_le_mul ht1.2 (by omega) cu.1 (by omega)
      have w5 : wrapF .i64 (t * bom R d) = t * bom R d := wrap64 (by omega) (by omega)
      have w6 : wrapF .i64 (t * cutB R l d) = t * cutB R l d := wrap64 (by omega) (by omega)
      by_cases cr : ra < 0
      · rw [byV, if_pos cr] at e17 e18
        simp -implicitDefEqProofs only [e8, hv2, ev0, ev1, ev2, ev3, ev4, ev5, ev6, ev7, evx, if_true, if_false, Nat.reduceEqDiff, Nat.reduceAdd, Nat.reduceMul, Nat.reduceSub, ↓reduceIte, reduceCtorEq, Nat.reduceLeDiff, Nat.reduceLT, Int.reduceLE, Int.reduceLT, Int.reduceEq, Int.reduceNeg, Int.reduceToNat, t2, t3, t4, t5, t11, t12, hb0, hx2, c0, c1, e11, e12, e13, e14, e15, e16, wl, wtl, e17, e18, w5, w6, e10]
      · rw [byV, if_neg cr] at e17 e18
        simp -implicitDefEqProofs only [e8, hv2, ev0, ev1, ev2, ev3, ev4, ev5, ev6, ev7, evx, if_true, if_false, Nat.reduceEqDiff, Nat.reduceAdd, Nat.reduceMul, Nat.reduceSub, ↓reduceIte, reduceCtorEq, Nat.reduceLeDiff, Nat.reduceLT, Int.reduceLE, Int.reduceLT, Int.reduceEq, Int.reduceNeg, Int.reduceToNat, t2, t3, t4, t5, t11, t12, hb0, hx2, c0, c1, e11, e12, e13, e14, e15, e16, wl, wtl, e17, e18, w5, w6, e10]
    · simp -implicitDefEqProofs only [e8, hv2, ev0, ev1, ev2, ev3, ev4, ev5, ev6, ev7, evx, if_true, if_false, Nat.reduceEqDiff, Nat.reduceAdd, Nat.reduceMul, Nat.reduceSub, ↓reduceIte, reduceCtorEq, Nat.reduceLeDiff, Nat.reduceLT, Int.reduceLE, Int.reduceLT, Int.reduceEq, Int.reduceNeg, Int.reduceToNat, e10]
  · simp -implicitDefEqProofs only [a4, ev0, ev1, ev2, ev3, ev4, ev5, ev6, ev7, evx, if_true, if_false, Nat.reduceEqDiff, Nat.reduceAdd, Nat.reduceMul, Nat.reduceSub, ↓reduceIte, reduceCtorEq, Nat.reduceLeDiff, Nat.reduceLT, Int.reduceLE, Int.reduceLT, Int.reduceEq, Int.reduceNeg, Int.reduceToNat, e9, hv, e10]
end
end Go.AM
