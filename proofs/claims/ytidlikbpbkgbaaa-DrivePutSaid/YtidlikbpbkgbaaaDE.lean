/- The days of a reach, all of them; how many logs can enter it. -/
import Derived.Test.YtidlikbpbkgbaaaDD
import Derived.Test.YtidlikbpbkgbaaaL6
set_option linter.all false
set_option linter.unusedVariables false
set_option linter.unusedSimpArgs false
set_option linter.unusedSectionVars false
namespace Go.AM
open Go
noncomputable section
variable {tm tm' : T AV} {σ σ' : AS} {h h' : T AObj} {n n' fl : Nat} {v w : AV} {sl P C B : AV} {g : List Int}

theorem days_all {x : Reach} {day : Int} {bx bf l : Nat} (I : Nat → AS → Prop) (he : 1 ≤ x.every) (he2 : x.every ≤ 10) (hlo : 0 ≤ x.lo) (hhi : x.hi ≤ 1000000)
    (hr : ∀ i σ, I i σ → ∃ h n fl, σ = ⟨h, n, fl⟩ ∧ h.get bx = some (.cells x.cl false) ∧ h.get bf = some (.cells [.int .i64 day] false))
    (hs : ∀ i σ, I i σ → x.lo + i * x.every ≤ x.hi → ¬ day ≤ x.lo + i * x.every → I (i + 1) σ)
    (hy : ∀ i σ, I i σ → x.lo + i * x.every ≤ x.hi → day ≤ x.lo + i * x.every → ∃ σ', (lim ft (oraOf 10 true)).call (.yld l) [.int .i64 (x.lo + i * x.every)] σ = some (.bool true, σ') ∧ I (i + 1) σ')
    (h0 : tm.get 0 = some (.yld l)) (h1 : tm.get 1 = some (.ptr (some (bx, 0)))) (h2 : tm.get 2 = some (.ptr (some (bf, 0)))) (h4 : tm.get 4 = some (.int .i64 x.lo)) (hI0 : I 0 σ) :
    Done ((lim ft (oraOf 10 true)).exec (.loop a62_L0) tm σ) fun e _ σ' => e = .exit 0 ∧ ∃ i : Nat, i ≤ x.hi.toNat + 1 ∧ I i σ' ∧ x.hi < x.lo + i * x.every := by
  have hend : x.hi < x.lo + ((x.hi.toNat + 1 : Nat) : Int) * x.every := by
    have : ((x.hi.toNat + 1 : Nat) : Int) * 1 ≤ ((x.hi.toNat + 1 : Nat) : Int) * x.every := Int.mul_le_mul_of_nonneg_left he (by omega)
    omega
  refine loop_up (fun i tm σ => I i σ ∧ tm.get 0 = some (.yld l) ∧ tm.get 1 = some (.ptr (some (bx, 0))) ∧ tm.get 2 = some (.ptr (some (bf, 0))) ∧ tm.get 4 = some (.int .i64 (x.lo + i * x.every))) _ (x.hi.toNat + 1) ?_ ?_
    (x.hi.toNat + 1) 0 tm _ (by omega) ⟨hI0, h0, h1, h2, by simpa using h4⟩
  · intro i tm σ hi ⟨hσ, h0, h1, h2, h4⟩ S hI hQ
    obtain ⟨h, n, fl, rfl, hx, hf⟩ := hr i σ hσ
    by_cases q1 : x.lo + i * x.every ≤ x.hi
    · have hw : wrapF .i64 (x.lo + i * x.every + x.every) = x.lo + ((i + 1 : Nat) : Int) * x.every := by
        have h5 := Int.mul_nonneg (show (0 : Int) ≤ i by omega) (show 0 ≤ x.every by omega)
        rw [wrap64 (by omega) (by omega)]
        rw [Int.natCast_add, Int.add_mul]; omega
      by_cases q2 : day ≤ x.lo + i * x.every
      · obtain ⟨⟨h2', n2, fl2⟩, e1, e2⟩ := hy i _ hσ q1 q2
        obtain ⟨h3, n3, fl3, e3, hx3, hf3⟩ := hr _ _ e2
        cases e3
        simp -implicitDefEqProofs only [a62_L0, ev0, ev1, ev2, ev3, ev4, ev5, ev6, ev7, evx, if_true, if_false, Nat.reduceEqDiff, Nat.reduceAdd, Nat.reduceMul, Nat.reduceSub, ↓reduceIte, reduceCtorEq, Nat.reduceLeDiff, Nat.reduceLT, Int.reduceLE, Int.reduceLT, Int.reduceEq, Int.reduceNeg, Int.reduceToNat, h0, h1, h2, h4, hx, hf, Reach.cl, q1, q2, e1]
        simp only [Reach.cl] at hx3
        simp -implicitDefEqProofs only [ev0, ev1, ev2, ev3, ev4, ev5, ev6, ev7, evx, if_true, if_false, Nat.reduceEqDiff, Nat.reduceAdd, Nat.reduceMul, Nat.reduceSub, ↓reduceIte, reduceCtorEq, Nat.reduceLeDiff, Nat.reduceLT, Int.reduceLE, Int.reduceLT, Int.reduceEq, Int.reduceNeg, Int.reduceToNat, h0, h1, h2, h4, hx3, hw]
        exact hI _ _ ⟨e2, by simp -implicitDefEqProofs only [ev0, ev1, ev2, ev3, ev4, ev5, ev6, ev7, evx, if_true, if_false, Nat.reduceEqDiff, Nat.reduceAdd, Nat.reduceMul, Nat.reduceSub, ↓reduceIte, reduceCtorEq, Nat.reduceLeDiff, Nat.reduceLT, Int.reduceLE, Int.reduceLT, Int.reduceEq, Int.reduceNeg, Int.reduceToNat, h0], by simp -implicitDefEqProofs only [ev0, ev1, ev2, ev3, ev4, ev5, ev6, ev7, evx, if_true, if_false, Nat.reduceEqDiff, Nat.reduceAdd, Nat.reduceMul, Nat.reduceSub, ↓reduceIte, reduceCtorEq, Nat.reduceLeDiff, Nat.reduceLT, Int.reduceLE, Int.reduceLT, Int.reduceEq, Int.reduceNeg, Int.reduceToNat, h1], by simp -implicitDefEqProofs only [ev0, ev1, ev2, ev3, ev4, ev5, ev6, ev7, evx, if_true, if_false, Nat.reduceEqDiff, Nat.reduceAdd, Nat.reduceMul, Nat.reduceSub, ↓reduceIte, reduceCtorEq, Nat.reduceLeDiff, Nat.reduceLT, Int.reduceLE, Int.reduceLT, Int.reduceEq, Int.reduceNeg, Int.reduceToNat, h2], by simp -implicitDefEqProofs only [ev0, ev1, ev2, ev3, ev4, ev5, ev6, ev7, evx, if_true, if_false, Nat.reduceEqDiff, Nat.reduceAdd, Nat.reduceMul, Nat.reduceSub, ↓reduceIte, reduceCtorEq, Nat.reduceLeDiff, Nat.reduceLT, Int.reduceLE, Int.reduceLT, Int.reduceEq, Int.reduceNeg, Int.reduceToNat]⟩
      · simp -implicitDefEqProofs only [a62_L0, ev0, ev1, ev2, ev3, ev4, ev5, ev6, ev7, evx, if_true, if_false, Nat.reduceEqDiff, Nat.reduceAdd, Nat.reduceMul, Nat.reduceSub, ↓reduceIte, reduceCtorEq, Nat.reduceLeDiff, Nat.reduceLT, Int.reduceLE, Int.reduceLT, Int.reduceEq, Int.reduceNeg, Int.reduceToNat, h0, h1, h2, h4, hx, hf, Reach.cl, q1, q2, hw]
        exact hI _ _ ⟨hs i _ hσ q1 q2, by simp -implicitDefEqProofs only [ev0, ev1, ev2, ev3, ev4, ev5, ev6, ev7, evx, if_true, if_false, Nat.reduceEqDiff, Nat.reduceAdd, Nat.reduceMul, Nat.reduceSub, ↓reduceIte, reduceCtorEq, Nat.reduceLeDiff, Nat.reduceLT, Int.reduceLE, Int.reduceLT, Int.reduceEq, Int.reduceNeg, Int.reduceToNat, h0], by simp -implicitDefEqProofs only [ev0, ev1, ev2, ev3, ev4, ev5, ev6, ev7, evx, if_true, if_false, Nat.reduceEqDiff, Nat.reduceAdd, Nat.reduceMul, Nat.reduceSub, ↓reduceIte, reduceCtorEq, Nat.reduceLeDiff, Nat.reduceLT, Int.reduceLE, Int.reduceLT, Int.reduceEq, Int.reduceNeg, Int.reduceToNat, h1], by simp -implicitDefEqProofs only [ev0, ev1, ev2, ev3, ev4, ev5, ev6, ev7, evx, if_true, if_false, Nat.reduceEqDiff, Nat.reduceAdd, Nat.reduceMul, Nat.reduceSub, ↓reduceIte, reduceCtorEq, Nat.reduceLeDiff, Nat.reduceLT, Int.reduceLE, Int.reduceLT, Int.reduceEq, Int.reduceNeg, Int.reduceToNat, h2], by simp -implicitDefEqProofs only [ev0, ev1, ev2, ev3, ev4, ev5, ev6, ev7, evx, if_true, if_false, Nat.reduceEqDiff, Nat.reduceAdd, Nat.reduceMul, Nat.reduceSub, ↓reduceIte, reduceCtorEq, Nat.reduceLeDiff, Nat.reduceLT, Int.reduceLE, Int.reduceLT, Int.reduceEq, Int.reduceNeg, Int.reduceToNat]⟩
    · simp -implicitDefEqProofs only [a62_L0, ev0, ev1, ev2, ev3, ev4, ev5, ev6, ev7, evx, if_true, if_false, Nat.reduceEqDiff, Nat.reduceAdd, Nat.reduceMul, Nat.reduceSub, ↓reduceIte, reduceCtorEq, Nat.reduceLeDiff, Nat.reduceLT, Int.reduceLE, Int.reduceLT, Int.reduceEq, Int.reduceNeg, Int.reduceToNat, h0, h1, h2, h4, hx, hf, Reach.cl, q1]
      exact hQ _ _ _ (by simp) ⟨rfl, i, by omega, hσ, by omega⟩
  · intro tm σ ⟨hσ, h0, h1, h2, h4⟩ S hQ
    obtain ⟨h, n, fl, rfl, hx, hf⟩ := hr _ σ hσ
    have q1 : ¬ x.lo + ((x.hi.toNat + 1 : Nat) : Int) * x.every ≤ x.hi := by omega
    simp -implicitDefEqProofs only [a62_L0, ev0, ev1, ev2, ev3, ev4, ev5, ev6, ev7, evx, if_true, if_false, Nat.reduceEqDiff, Nat.reduceAdd, Nat.reduceMul, Nat.reduceSub, ↓reduceIte, reduceCtorEq, Nat.reduceLeDiff, Nat.reduceLT, Int.reduceLE, Int.reduceLT, Int.reduceEq, Int.reduceNeg, Int.reduceToNat, h0, h1, h2, h4, hx, hf, Reach.cl, q1]
    exact hQ _ _ _ (by simp) ⟨rfl, _, Nat.le_refl _, hσ, by omega⟩

def thrAt (x : Reach) (fm bf : Int) (i : Nat) : Int := if x.lo + i * x.every ≤ x.hi ∧ fm ≤ x.lo + i * x.every ∧ x.lo + i * x.every + x.takes < bf then x.pass else 0
def thr (x : Reach) (fm bf : Int) : Int := sumTo (thrAt x fm bf) (x.hi.toNat + 1)
theorem thr_cut {x : Reach} {fm bf : Int} {i : Nat} (he : 1 ≤ x.every) (hi : i ≤ x.hi.toNat + 1) (h : x.hi < x.lo + i * x.every) : sumTo (thrAt x fm bf) i = thr x fm bf := by
  refine (sumTo_cut hi fun u h1 h2 => ?_).symm
  unfold thrAt
  rw [if_neg]
  intro ⟨h3, _⟩
  have : (i : Int) * x.every ≤ (u : Int) * x.every := Int.mul_le_mul_of_nonneg_right (by omega) (by omega)
  omega
theorem thr_up {x : Reach} {fm bf : Int} (hp : 0 ≤ x.pass ∧ x.pass ≤ 1000) : ∀ i : Nat, 0 ≤ sumTo (thrAt x fm bf) i ∧ sumTo (thrAt x fm bf) i ≤ 1000 * i
  | 0 => by simp [sumTo]
  | i + 1 => by
    have := thr_up (fm := fm) (bf := bf) hp i
    have h2 : 0 ≤ thrAt x fm bf i ∧ thrAt x fm bf i ≤ 1000 := by unfold thrAt; split <;> omega
    show 0 ≤ sumTo (thrAt x fm bf) i + thrAt x fm bf i ∧ sumTo (thrAt x fm bf) i + thrAt x fm bf i ≤ _
    omega
theorem thr_timed (x : Reach) (t fm bf : Int) : thr (x.timed t) fm bf = t * thr x fm bf := by
  unfold thr
  rw [← sumTo_mul]
  refine sumTo_congr fun u _ => ?_
  unfold thrAt
  show (if x.lo + u * x.every ≤ x.hi ∧ fm ≤ x.lo + u * x.every ∧ x.lo + u * x.every + x.takes < bf then t * x.pass else 0) = _
  split
  · rfl
  · rw [Int.mul_zero]

def thrRec (T0 : T AV) : ALoop := { busy := false, done := false, pending := .normal, tmps := T0, params := [12], assign := a38_A0, body := a38_B1 }
theorem through_call {x : Reach} {fm bf days : Int} (ok : RangeOK x days) (hd : days ≤ 40) (hb : 0 ≤ bf ∧ bf ≤ 1000) :
    (lim ft (oraOf 10 true)).call (.fn 38 [] []) [x.av, .int .i64 fm, .int .i64 bf] ⟨h, n, fl⟩ = some (.int .i64 (thr x fm bf), ⟨h, n, fl⟩) := by
  have o1 := ok.p1
  have o2 := ok.p2
  have o3 := ok.t1
  have o4 := ok.t2
  have o5 := ok.e1
  have o6 := ok.e2
  have o7 := ok.w1
  have o8 := ok.w2
  have o9 := ok.w3
  refine pure_call rfl (by rfl) rfl rfl rfl ?_
  have c57 := @days_call
  simp -implicitDefEqProofs only [a38, Reach.av, ev0, ev1, ev2, ev3, ev4, ev5, ev6, ev7, evx, if_true, if_false, Nat.reduceEqDiff, Nat.reduceAdd, Nat.reduceMul, Nat.reduceSub, ↓reduceIte, reduceCtorEq, Nat.reduceLeDiff, Nat.reduceLT, Int.reduceLE, Int.reduceLT, Int.reduceEq, Int.reduceNeg, Int.reduceToNat]
  simp -implicitDefEqProofs only [Reach.av] at c57
  simp -implicitDefEqProofs only [c57, ev0, ev1, ev2, ev3, ev4, ev5, ev6, ev7, evx, if_true, if_false, Nat.reduceEqDiff, Nat.reduceAdd, Nat.reduceMul, Nat.reduceSub, ↓reduceIte, reduceCtorEq, Nat.reduceLeDiff, Nat.reduceLT, Int.reduceLE, Int.reduceLT, Int.reduceEq, Int.reduceNeg, Int.reduceToNat, Reach.cl]
  generalize hT : T.put _ 11 _ = T0
  generalize hH : T.put _ (n + 5) _ = H
  have t3 : T0.get 3 = some (.ptr (some (n, 0))) := by subst hT; simp -implicitDefEqProofs only [ev0, ev1, ev2, ev3, ev4, ev5, ev6, ev7, evx, if_true, if_false, Nat.reduceEqDiff, Nat.reduceAdd, Nat.reduceMul, Nat.reduceSub, ↓reduceIte, reduceCtorEq, Nat.reduceLeDiff, Nat.reduceLT, Int.reduceLE, Int.reduceLT, Int.reduceEq, Int.reduceNeg, Int.reduceToNat]
  have t5 : T0.get 5 = some (.ptr (some (n + 1, 0))) := by subst hT; simp -implicitDefEqProofs only [ev0, ev1, ev2, ev3, ev4, ev5, ev6, ev7, evx, if_true, if_false, Nat.reduceEqDiff, Nat.reduceAdd, Nat.reduceMul, Nat.reduceSub, ↓reduceIte, reduceCtorEq, Nat.reduceLeDiff, Nat.reduceLT, Int.reduceLE, Int.reduceLT, Int.reduceEq, Int.reduceNeg, Int.reduceToNat]
  have t7 : T0.get 7 = some (.ptr (some (n + 2, 0))) := by subst hT; simp -implicitDefEqProofs only [ev0, ev1, ev2, ev3, ev4, ev5, ev6, ev7, evx, if_true, if_false, Nat.reduceEqDiff, Nat.reduceAdd, Nat.reduceMul, Nat.reduceSub, ↓reduceIte, reduceCtorEq, Nat.reduceLeDiff, Nat.reduceLT, Int.reduceLE, Int.reduceLT, Int.reduceEq, Int.reduceNeg, Int.reduceToNat]
  have g0 : H.get n = some (.cells x.cl false) := by subst hH; simp -implicitDefEqProofs only [ev0, ev1, ev2, ev3, ev4, ev5, ev6, ev7, evx, if_true, if_false, Nat.reduceEqDiff, Nat.reduceAdd, Nat.reduceMul, Nat.reduceSub, ↓reduceIte, reduceCtorEq, Nat.reduceLeDiff, Nat.reduceLT, Int.reduceLE, Int.reduceLT, Int.reduceEq, Int.reduceNeg, Int.reduceToNat, Reach.cl]
  have g1 : H.get (n + 1) = some (.cells [.int .i64 bf] false) := by subst hH; simp -implicitDefEqProofs only [ev0, ev1, ev2, ev3, ev4, ev5, ev6, ev7, evx, if_true, if_false, Nat.reduceEqDiff, Nat.reduceAdd, Nat.reduceMul, Nat.reduceSub, ↓reduceIte, reduceCtorEq, Nat.reduceLeDiff, Nat.reduceLT, Int.reduceLE, Int.reduceLT, Int.reduceEq, Int.reduceNeg, Int.reduceToNat]
  have g2 : H.get (n + 2) = some (.cells [.int .i64 0] false) := by subst hH; simp -implicitDefEqProofs only [ev0, ev1, ev2, ev3, ev4, ev5, ev6, ev7, evx, if_true, if_false, Nat.reduceEqDiff, Nat.reduceAdd, Nat.reduceMul, Nat.reduceSub, ↓reduceIte, reduceCtorEq, Nat.reduceLeDiff, Nat.reduceLT, Int.reduceLE, Int.reduceLT, Int.reduceEq, Int.reduceNeg, Int.reduceToNat]
  have g3 : H.get (n + 3) = some (.cells x.cl false) := by subst hH; simp -implicitDefEqProofs only [ev0, ev1, ev2, ev3, ev4, ev5, ev6, ev7, evx, if_true, if_false, Nat.reduceEqDiff, Nat.reduceAdd, Nat.reduceMul, Nat.reduceSub, ↓reduceIte, reduceCtorEq, Nat.reduceLeDiff, Nat.reduceLT, Int.reduceLE, Int.reduceLT, Int.reduceEq, Int.reduceNeg, Int.reduceToNat, Reach.cl]
  have g4 : H.get (n + 4) = some (.cells [.int .i64 fm] false) := by subst hH; simp -implicitDefEqProofs only [ev0, ev1, ev2, ev3, ev4, ev5, ev6, ev7, evx, if_true, if_false, Nat.reduceEqDiff, Nat.reduceAdd, Nat.reduceMul, Nat.reduceSub, ↓reduceIte, reduceCtorEq, Nat.reduceLeDiff, Nat.reduceLT, Int.reduceLE, Int.reduceLT, Int.reduceEq, Int.reduceNeg, Int.reduceToNat]
  have g5 : H.get (n + 5) = some (.loop (thrRec T0)) := by subst hH; simp -implicitDefEqProofs only [ev0, ev1, ev2, ev3, ev4, ev5, ev6, ev7, evx, if_true, if_false, Nat.reduceEqDiff, Nat.reduceAdd, Nat.reduceMul, Nat.reduceSub, ↓reduceIte, reduceCtorEq, Nat.reduceLeDiff, Nat.reduceLT, Int.reduceLE, Int.reduceLT, Int.reduceEq, Int.reduceNeg, Int.reduceToNat, thrRec]
  let I : Nat → AS → Prop := fun i σ => ∃ h', σ = ⟨h', n + 6, n⟩ ∧ h'.get n = some (.cells x.cl false) ∧ h'.get (n + 1) = some (.cells [.int .i64 bf] false) ∧ h'.get (n + 2) = some (.cells [.int .i64 (sumTo (thrAt x fm bf) i)] false) ∧
    h'.get (n + 3) = some (.cells x.cl false) ∧ h'.get (n + 4) = some (.cells [.int .i64 fm] false) ∧ h'.get (n + 5) = some (.loop (thrRec T0))
  have hz : ∀ i : Nat, ¬ (x.lo + i * x.every ≤ x.hi ∧ fm ≤ x.lo + i * x.every ∧ x.lo + i * x.every + x.takes < bf) → sumTo (thrAt x fm bf) (i + 1) = sumTo (thrAt x fm bf) i := fun i hc => by
    show sumTo (thrAt x fm bf) i + thrAt x fm bf i = _
    rw [show thrAt x fm bf i = 0 by unfold thrAt; rw [if_neg hc]]; omega
  have hcall : ∃ v σ', (lim ft (oraOf 10 true)).call (.fn 62 [] [.ptr (some (n + 3, 0)), .ptr (some (n + 4, 0))]) [.yld (n + 5)] ⟨H, n + 6, n⟩ = some (v, σ') ∧ ∃ i : Nat, i ≤ x.hi.toNat + 1 ∧ I i σ' ∧ x.hi < x.lo + i * x.every := by
    refine call_done rfl (by rfl) rfl rfl fun R hR => ?_
    simp -implicitDefEqProofs only [a62, ev0, ev1, ev2, ev3, ev4, ev5, ev6, ev7, evx, if_true, if_false, Nat.reduceEqDiff, Nat.reduceAdd, Nat.reduceMul, Nat.reduceSub, ↓reduceIte, reduceCtorEq, Nat.reduceLeDiff, Nat.reduceLT, Int.reduceLE, Int.reduceLT, Int.reduceEq, Int.reduceNeg, Int.reduceToNat, g3, Reach.cl]
    generalize hT' : T.put _ 4 _ = T1
    obtain ⟨e, tm', ⟨h', m', fl'⟩, e1, rfl, e2⟩ := days_all (tm := T1) (l := n + 5) (σ := ⟨H, n + 6, n⟩) (day := fm) (bx := n + 3) (bf := n + 4) I o5 o6 (by omega) (by omega)
      (fun i σ hI => by
        obtain ⟨h', rfl, k0, k1, k2, k3, k4, k5⟩ := hI
        exact ⟨_, _, _, rfl, k3, k4⟩)
      (fun i σ hI q1 q2 => by
        obtain ⟨h', rfl, k0, k1, k2, k3, k4, k5⟩ := hI
        exact ⟨h', rfl, k0, k1, by rw [hz i (fun hc => q2 hc.2.1)]; exact k2, k3, k4, k5⟩)
      (fun i σ hI q1 q2 => by
        obtain ⟨h', rfl, k0, k1, k2, k3, k4, k5⟩ := hI
        have hu := thr_up (fm := fm) (bf := bf) ⟨o1, o2⟩ i
        have h5 := Int.mul_nonneg (show (0 : Int) ≤ i by omega) (show 0 ≤ x.every by omega)
        have hi40 : i < 40 := by
          have : (i : Int) * 1 ≤ (i : Int) * x.every := Int.mul_le_mul_of_nonneg_left o5 (by omega)
          omega
        have w1 : wrapF .i64 (x.lo + i * x.every + x.takes) = x.lo + i * x.every + x.takes := wrap64 (by omega) (by omega)
        have w2 : wrapF .i64 (sumTo (thrAt x fm bf) i + x.pass) = sumTo (thrAt x fm bf) i + x.pass := wrap64 (by omega) (by omega)
        by_cases q3 : x.lo + i * x.every + x.takes < bf
        · have hs : sumTo (thrAt x fm bf) (i + 1) = sumTo (thrAt x fm bf) i + x.pass := by
            show sumTo (thrAt x fm bf) i + thrAt x fm bf i = _
            unfold thrAt; rw [if_pos ⟨q1, q2, q3⟩]
          simp only [Reach.cl] at k0
          refine ⟨_, (yld_call (r := thrRec T0) (r2 := thrRec T0) (x := .normal) rfl (by omega) k5 rfl rfl rfl (by simp -implicitDefEqProofs only [thrRec, a38_A0, ev0, ev1, ev2, ev3, ev4, ev5, ev6, ev7, evx, if_true, if_false, Nat.reduceEqDiff, Nat.reduceAdd, Nat.reduceMul, Nat.reduceSub, ↓reduceIte, reduceCtorEq, Nat.reduceLeDiff, Nat.reduceLT, Int.reduceLE, Int.reduceLT, Int.reduceEq, Int.reduceNeg, Int.reduceToNat]; rfl) k5 rfl rfl (by simp -implicitDefEqProofs only [thrRec, a38_B1, ev0, ev1, ev2, ev3, ev4, ev5, ev6, ev7, evx, if_true, if_false, Nat.reduceEqDiff, Nat.reduceAdd, Nat.reduceMul, Nat.reduceSub, ↓reduceIte, reduceCtorEq, Nat.reduceLeDiff, Nat.reduceLT, Int.reduceLE, Int.reduceLT, Int.reduceEq, Int.reduceNeg, Int.reduceToNat, t3, t5, t7, k0, k1, k2, w1, w2, q3]; rfl)).trans (congrArg some yieldEnd_n), ?_⟩
          refine ⟨_, rfl, ?_, ?_, ?_, ?_, ?_, ?_⟩
          · rw [hget_ne (by omega), hget_ne (by omega), hget_ne (by omega)]; exact k0
          · rw [hget_ne (by omega), hget_ne (by omega), hget_ne (by omega)]; exact k1
          · rw [hget_ne (by omega), hget_eq, hs]
          · rw [hget_ne (by omega), hget_ne (by omega), hget_ne (by omega)]; exact k3
          · rw [hget_ne (by omega), hget_ne (by omega), hget_ne (by omega)]; exact k4
          · rw [hget_eq]; rfl
        · have hs := hz i (fun hc => q3 hc.2.2)
          simp only [Reach.cl] at k0
          refine ⟨_, (yld_call (r := thrRec T0) (r2 := thrRec T0) (x := .normal) rfl (by omega) k5 rfl rfl rfl (by simp -implicitDefEqProofs only [thrRec, a38_A0, ev0, ev1, ev2, ev3, ev4, ev5, ev6, ev7, evx, if_true, if_false, Nat.reduceEqDiff, Nat.reduceAdd, Nat.reduceMul, Nat.reduceSub, ↓reduceIte, reduceCtorEq, Nat.reduceLeDiff, Nat.reduceLT, Int.reduceLE, Int.reduceLT, Int.reduceEq, Int.reduceNeg, Int.reduceToNat]; rfl) k5 rfl rfl (by simp -implicitDefEqProofs only [thrRec, a38_B1, ev0, ev1, ev2, ev3, ev4, ev5, ev6, ev7, evx, if_true, if_false, Nat.reduceEqDiff, Nat.reduceAdd, Nat.reduceMul, Nat.reduceSub, ↓reduceIte, reduceCtorEq, Nat.reduceLeDiff, Nat.reduceLT, Int.reduceLE, Int.reduceLT, Int.reduceEq, Int.reduceNeg, Int.reduceToNat, t3, t5, t7, k0, k1, k2, w1, w2, q3]; rfl)).trans (congrArg some yieldEnd_n), ?_⟩
          refine ⟨_, rfl, ?_, ?_, ?_, ?_, ?_, ?_⟩
          · rw [hget_ne (by omega), hget_ne (by omega)]; exact k0
          · rw [hget_ne (by omega), hget_ne (by omega)]; exact k1
          · rw [hget_ne (by omega), hget_ne (by omega), hs]; exact k2
          · rw [hget_ne (by omega), hget_ne (by omega)]; exact k3
          · rw [hget_ne (by omega), hget_ne (by omega)]; exact k4
          · rw [hget_eq]; rfl)
      (by subst hT'; simp -implicitDefEqProofs only [ev0, ev1, ev2, ev3, ev4, ev5, ev6, ev7, evx, if_true, if_false, Nat.reduceEqDiff, Nat.reduceAdd, Nat.reduceMul, Nat.reduceSub, ↓reduceIte, reduceCtorEq, Nat.reduceLeDiff, Nat.reduceLT, Int.reduceLE, Int.reduceLT, Int.reduceEq, Int.reduceNeg, Int.reduceToNat]) (by subst hT'; simp -implicitDefEqProofs only [ev0, ev1, ev2, ev3, ev4, ev5, ev6, ev7, evx, if_true, if_false, Nat.reduceEqDiff, Nat.reduceAdd, Nat.reduceMul, Nat.reduceSub, ↓reduceIte, reduceCtorEq, Nat.reduceLeDiff, Nat.reduceLT, Int.reduceLE, Int.reduceLT, Int.reduceEq, Int.reduceNeg, Int.reduceToNat]) (by subst hT'; simp -implicitDefEqProofs only [ev0, ev1, ev2, ev3, ev4, ev5, ev6, ev7, evx, if_true, if_false, Nat.reduceEqDiff, Nat.reduceAdd, Nat.reduceMul, Nat.reduceSub, ↓reduceIte, reduceCtorEq, Nat.reduceLeDiff, Nat.reduceLT, Int.reduceLE, Int.reduceLT, Int.reduceEq, Int.reduceNeg, Int.reduceToNat]) (by subst hT'; simp -implicitDefEqProofs only [ev0, ev1, ev2, ev3, ev4, ev5, ev6, ev7, evx, if_true, if_false, Nat.reduceEqDiff, Nat.reduceAdd, Nat.reduceMul, Nat.reduceSub, ↓reduceIte, reduceCtorEq, Nat.reduceLeDiff, Nat.reduceLT, Int.reduceLE, Int.reduceLT, Int.reduceEq, Int.reduceNeg, Int.reduceToNat]) ⟨H, rfl, g0, g1, g2, g3, g4, g5⟩
    simp -implicitDefEqProofs only [e1, ev0, ev1, ev2, ev3, ev4, ev5, ev6, ev7, evx, if_true, if_false, Nat.reduceEqDiff, Nat.reduceAdd, Nat.reduceMul, Nat.reduceSub, ↓reduceIte, reduceCtorEq, Nat.reduceLeDiff, Nat.reduceLT, Int.reduceLE, Int.reduceLT, Int.reduceEq, Int.reduceNeg, Int.reduceToNat]
    exact hR _ _ _ (.tup []) (by simp) rfl e2
  obtain ⟨u, σ', e1, i, hi, ⟨h', rfl, k0, k1, k2, k3, k4, k5⟩, hlt⟩ := hcall
  rw [thr_cut o5 hi hlt] at k2
  rw [e1, rng_s k5 rfl]
  simp -implicitDefEqProofs only [ev0, ev1, ev2, ev3, ev4, ev5, ev6, ev7, evx, if_true, if_false, Nat.reduceEqDiff, Nat.reduceAdd, Nat.reduceMul, Nat.reduceSub, ↓reduceIte, reduceCtorEq, Nat.reduceLeDiff, Nat.reduceLT, Int.reduceLE, Int.reduceLT, Int.reduceEq, Int.reduceNeg, Int.reduceToNat, t7, k2, thrRec]
end
end Go.AM
/- By which day so many logs can come. -/
namespace Go.AM
open Go
noncomputable section
variable {tm tm' : T AV} {σ σ' : AS} {h h' : T AObj} {n n' fl : Nat} {v w : AV} {sl P C B : AV} {g : List Int}

/-- The first place where it is so, -1 for none. -/
def FirstOf (b : Nat → Bool) (N : Nat) (r : Int) : Prop := (r = -1 ∧ ∀ j, j < N → b j = false) ∨ ∃ k : Nat, k < N ∧ r = k ∧ b k = true ∧ ∀ j, j < k → b j = false
theorem FirstOf.uniq {b : Nat → Bool} {N : Nat} {r r' : Int} (h1 : FirstOf b N r) (h2 : FirstOf b N r') : r = r' := by
  rcases h1 with ⟨rfl, a1⟩ | ⟨k, k1, rfl, k2, k3⟩
  · rcases h2 with ⟨rfl, a2⟩ | ⟨q, q1, rfl, q2, q3⟩
    · rfl
    · rw [a1 q q1] at q2; cases q2
  · rcases h2 with ⟨rfl, a2⟩ | ⟨q, q1, rfl, q2, q3⟩
    · rw [a2 k k1] at k2; cases k2
    · rcases Nat.lt_trichotomy k q with c | c | c
      · rw [q3 k c] at k2; cases k2
      · rw [c]
      · rw [k3 q c] at q2; cases q2

theorem least_call {b : Nat} {x lim0 : Int} {ro : Bool} (hg : h.get b = some (.cells [.int .i64 lim0] ro)) :
    (lim ft (oraOf 10 true)).call (.fn 40 [] [.ptr (some (b, 0))]) [.int .i64 x] ⟨h, n, fl⟩ = some (.bool (decide (lim0 ≤ x)), ⟨h, n, fl⟩) := by
  refine pure_call rfl (by rfl) rfl rfl rfl ?_
  by_cases c : lim0 ≤ x
  · simp -implicitDefEqProofs only [a40, ev0, ev1, ev2, ev3, ev4, ev5, ev6, ev7, evx, if_true, if_false, Nat.reduceEqDiff, Nat.reduceAdd, Nat.reduceMul, Nat.reduceSub, ↓reduceIte, reduceCtorEq, Nat.reduceLeDiff, Nat.reduceLT, Int.reduceLE, Int.reduceLT, Int.reduceEq, Int.reduceNeg, Int.reduceToNat, hg, c]
  · simp -implicitDefEqProofs only [a40, ev0, ev1, ev2, ev3, ev4, ev5, ev6, ev7, evx, if_true, if_false, Nat.reduceEqDiff, Nat.reduceAdd, Nat.reduceMul, Nat.reduceSub, ↓reduceIte, reduceCtorEq, Nat.reduceLeDiff, Nat.reduceLT, Int.reduceLE, Int.reduceLT, Int.reduceEq, Int.reduceNeg, Int.reduceToNat, hg, c]

theorem first_call {l : List Int} {f : AV} {p : Int → Bool} (hl : l.length < 1000) (hs : SlI h v l) (hf : Fresh h n) (hp : ∀ x σ, σ = ⟨h, n, n⟩ → (lim ft (oraOf 10 true)).call f [.int .i64 x] σ = some (.bool (p x), σ)) :
    ∃ r : Int, (lim ft (oraOf 10 true)).call (.fn 39 [] []) [v, f] ⟨h, n, fl⟩ = some (.int .i64 r, ⟨h, n, fl⟩) ∧ FirstOf (fun j => p (l.getD j 0)) l.length r := by
  obtain ⟨a, c, e, ck, rfl⟩ := hs.shape ints_len
  have main : ∀ T0 : T AV, T0.get 1 = some f → T0.get 7 = some (.slc a l.length c e ck) → T0.get 8 = some (.int .i64 l.length) → T0.get 9 = some (.int .i64 0) →
      Done ((lim ft (oraOf 10 true)).exec (.loop a39_L0) T0 ⟨h, n, n⟩) fun x tm' σ' => σ' = ⟨h, n, n⟩ ∧ ((x = .exit 0 ∧ ∀ j, j < l.length → p (l.getD j 0) = false) ∨ ∃ k : Nat, x = .ret ∧ k < l.length ∧ tm'.get 4 = some (.int .i64 (k : Int)) ∧ p (l.getD k 0) = true ∧ ∀ j, j < k → p (l.getD j 0) = false) := by
    intro T0 h1 h7 h8 h9
    refine loop_up (fun k tm σ => tm.get 1 = some f ∧ tm.get 7 = some (.slc a l.length c e ck) ∧ tm.get 8 = some (.int .i64 l.length) ∧ tm.get 9 = some (.int .i64 (k : Int)) ∧ σ = ⟨h, n, n⟩ ∧ ∀ j, j < k → p (l.getD j 0) = false) _ l.length ?_ ?_
      l.length 0 T0 _ (by simp) ⟨h1, h7, h8, h9, rfl, fun j hj => by omega⟩
    · intro k tm σ hk ⟨h1, h7, h8, h9, hσ, hno⟩ S hI hQ
      subst hσ
      have hlt : ((k : Int) < (l.length : Int)) := by omega
      have hw : wrapF .i64 ((k : Int) + 1) = ((k + 1 : Nat) : Int) := by rw [wrap64 (by omega) (by omega)]; omega
      obtain ⟨sb, o, c', e', ck', q1, q2, q3⟩ := hs.one hf (i := k) (ints_get (List.getElem?_eq_getElem hk)) ints_len
      have q0 : a = some (sb, o) := by injection q1
      subst q0
      rw [Nat.mul_one] at q3
      have hgd : l.getD k 0 = l[k] := by simp [List.getD_eq_getElem?_getD, hk]
      have hpk := hp l[k] _ rfl
      cases c1 : p l[k] with
      | true =>
        rw [c1] at hpk
        simp -implicitDefEqProofs only [a39_L0, ev0, ev1, ev2, ev3, ev4, ev5, ev6, ev7, evx, if_true, if_false, Nat.reduceEqDiff, Nat.reduceAdd, Nat.reduceMul, Nat.reduceSub, ↓reduceIte, reduceCtorEq, Nat.reduceLeDiff, Nat.reduceLT, Int.reduceLE, Int.reduceLT, Int.reduceEq, Int.reduceNeg, Int.reduceToNat, h1, h7, h8, h9, hlt, hk, q3, hw, hpk]
        exact hQ _ _ _ (by simp) ⟨rfl, .inr ⟨k, rfl, hk, by simp -implicitDefEqProofs only [ev0, ev1, ev2, ev3, ev4, ev5, ev6, ev7, evx, if_true, if_false, Nat.reduceEqDiff, Nat.reduceAdd, Nat.reduceMul, Nat.reduceSub, ↓reduceIte, reduceCtorEq, Nat.reduceLeDiff, Nat.reduceLT, Int.reduceLE, Int.reduceLT, Int.reduceEq, Int.reduceNeg, Int.reduceToNat], by rw [hgd]; exact c1, hno⟩⟩
      | false =>
        rw [c1] at hpk
        simp -implicitDefEqProofs only [a39_L0, ev0, ev1, ev2, ev3, ev4, ev5, ev6, ev7, evx, if_true, if_false, Nat.reduceEqDiff, Nat.reduceAdd, Nat.reduceMul, Nat.reduceSub, ↓reduceIte, reduceCtorEq, Nat.reduceLeDiff, Nat.reduceLT, Int.reduceLE, Int.reduceLT, Int.reduceEq, Int.reduceNeg, Int.reduceToNat, h1, h7, h8, h9, hlt, hk, q3, hw, hpk]
        refine hI _ _ ⟨by simp -implicitDefEqProofs only [ev0, ev1, ev2, ev3, ev4, ev5, ev6, ev7, evx, if_true, if_false, Nat.reduceEqDiff, Nat.reduceAdd, Nat.reduceMul, Nat.reduceSub, ↓reduceIte, reduceCtorEq, Nat.reduceLeDiff, Nat.reduceLT, Int.reduceLE, Int.reduceLT, Int.reduceEq, Int.reduceNeg, Int.reduceToNat, h1], by simp -implicitDefEqProofs only [ev0, ev1, ev2, ev3, ev4, ev5, ev6, ev7, evx, if_true, if_false, Nat.reduceEqDiff, Nat.reduceAdd, Nat.reduceMul, Nat.reduceSub, ↓reduceIte, reduceCtorEq, Nat.reduceLeDiff, Nat.reduceLT, Int.reduceLE, Int.reduceLT, Int.reduceEq, Int.reduceNeg, Int.reduceToNat, h7], by simp -implicitDefEqProofs only [ev0, ev1, ev2, ev3, ev4, ev5, ev6, ev7, evx, if_true, if_false, Nat.reduceEqDiff, Nat.reduceAdd, Nat.reduceMul, Nat.reduceSub, ↓reduceIte, reduceCtorEq, Nat.reduceLeDiff, Nat.reduceLT, Int.reduceLE, Int.reduceLT, Int.reduceEq, Int.reduceNeg, Int.reduceToNat, h8], by simp -implicitDefEqProofs only [ev0, ev1, ev2, ev3, ev4, ev5, ev6, ev7, evx, if_true, if_false, Nat.reduceEqDiff, Nat.reduceAdd, Nat.reduceMul, Nat.reduceSub, ↓reduceIte, reduceCtorEq, Nat.reduceLeDiff, Nat.reduceLT, Int.reduceLE, Int.reduceLT, Int.reduceEq, Int.reduceNeg, Int.reduceToNat], rfl, fun j hj => ?_⟩
        by_cases e : j = k
        · subst e; rw [hgd]; exact c1
        · exact hno j (by omega)
    · intro tm σ ⟨h1, h7, h8, h9, hσ, hno⟩ S hQ
      subst hσ
      have hlt : ¬ ((l.length : Int) < (l.length : Int)) := by omega
      simp -implicitDefEqProofs only [a39_L0, ev0, ev1, ev2, ev3, ev4, ev5, ev6, ev7, evx, if_true, if_false, Nat.reduceEqDiff, Nat.reduceAdd, Nat.reduceMul, Nat.reduceSub, ↓reduceIte, reduceCtorEq, Nat.reduceLeDiff, Nat.reduceLT, Int.reduceLE, Int.reduceLT, Int.reduceEq, Int.reduceNeg, Int.reduceToNat, h8, h9, hlt]
      exact hQ _ _ _ (by simp) ⟨rfl, .inl ⟨rfl, hno⟩⟩
  have hq : ∃ r : Int, FirstOf (fun j => p (l.getD j 0)) l.length r ∧ FnRes a39.results (.int .i64 r) ((lim ft (oraOf 10 true)).exec a39.body (setArgs ([] ++ [.slc a l.length c e ck, f] ++ []) 0 .e) ⟨h, n, n⟩) := by
    simp -implicitDefEqProofs only [a39, ev0, ev1, ev2, ev3, ev4, ev5, ev6, ev7, evx, if_true, if_false, Nat.reduceEqDiff, Nat.reduceAdd, Nat.reduceMul, Nat.reduceSub, ↓reduceIte, reduceCtorEq, Nat.reduceLeDiff, Nat.reduceLT, Int.reduceLE, Int.reduceLT, Int.reduceEq, Int.reduceNeg, Int.reduceToNat]
    generalize hT : T.put _ 9 _ = T0
    obtain ⟨x, tm', σ', e1, rfl, hx⟩ := main T0 (by subst hT; simp -implicitDefEqProofs only [ev0, ev1, ev2, ev3, ev4, ev5, ev6, ev7, evx, if_true, if_false, Nat.reduceEqDiff, Nat.reduceAdd, Nat.reduceMul, Nat.reduceSub, ↓reduceIte, reduceCtorEq, Nat.reduceLeDiff, Nat.reduceLT, Int.reduceLE, Int.reduceLT, Int.reduceEq, Int.reduceNeg, Int.reduceToNat]) (by subst hT; simp -implicitDefEqProofs only [ev0, ev1, ev2, ev3, ev4, ev5, ev6, ev7, evx, if_true, if_false, Nat.reduceEqDiff, Nat.reduceAdd, Nat.reduceMul, Nat.reduceSub, ↓reduceIte, reduceCtorEq, Nat.reduceLeDiff, Nat.reduceLT, Int.reduceLE, Int.reduceLT, Int.reduceEq, Int.reduceNeg, Int.reduceToNat]) (by subst hT; simp -implicitDefEqProofs only [ev0, ev1, ev2, ev3, ev4, ev5, ev6, ev7, evx, if_true, if_false, Nat.reduceEqDiff, Nat.reduceAdd, Nat.reduceMul, Nat.reduceSub, ↓reduceIte, reduceCtorEq, Nat.reduceLeDiff, Nat.reduceLT, Int.reduceLE, Int.reduceLT, Int.reduceEq, Int.reduceNeg, Int.reduceToNat]) (by subst hT; simp -implicitDefEqProofs only [ev0, ev1, ev2, ev3, ev4, ev5, ev6, ev7, evx, if_true, if_false, Nat.reduceEqDiff, Nat.reduceAdd, Nat.reduceMul, Nat.reduceSub, ↓reduceIte, reduceCtorEq, Nat.reduceLeDiff, Nat.reduceLT, Int.reduceLE, Int.reduceLT, Int.reduceEq, Int.reduceNeg, Int.reduceToNat])
    rcases hx with ⟨rfl, hno⟩ | ⟨k, rfl, hk, t4, k1, k2⟩
    · refine ⟨-1, .inl ⟨rfl, hno⟩, ?_⟩
      simp -implicitDefEqProofs only [e1, ev0, ev1, ev2, ev3, ev4, ev5, ev6, ev7, evx, if_true, if_false, Nat.reduceEqDiff, Nat.reduceAdd, Nat.reduceMul, Nat.reduceSub, ↓reduceIte, reduceCtorEq, Nat.reduceLeDiff, Nat.reduceLT, Int.reduceLE, Int.reduceLT, Int.reduceEq, Int.reduceNeg, Int.reduceToNat]
    · refine ⟨k, .inr ⟨k, hk, rfl, k1, k2⟩, ?_⟩
      simp -implicitDefEqProofs only [e1, ev0, ev1, ev2, ev3, ev4, ev5, ev6, ev7, evx, if_true, if_false, Nat.reduceEqDiff, Nat.reduceAdd, Nat.reduceMul, Nat.reduceSub, ↓reduceIte, reduceCtorEq, Nat.reduceLeDiff, Nat.reduceLT, Int.reduceLE, Int.reduceLT, Int.reduceEq, Int.reduceNeg, Int.reduceToNat, t4]
  obtain ⟨r, h1, h2⟩ := hq
  exact ⟨r, pure_call rfl (by rfl) rfl rfl rfl h2, h1⟩

theorem opdO_c {a : AV} : opdO (some (.const a)) tm = some (some a) := rfl
theorem bounds_s1 {N : Nat} : bounds3 (N + 1) (N + 1) (some (.int .i64 1)) none none = some (1, N + 1, N + 1) := by
  have e1 : Nat.ble 1 (N + 1) = true := Nat.ble_eq_true_of_le (by omega)
  have e2 : asNat (.int .i64 1) = some 1 := rfl
  unfold bounds3
  simp [e1, e2]
theorem slice_s1 {bb N : Nat} {ck : CK} (hck : ck ≠ .opaq) : sliceV 2 1 (.slc (some (bb, 0)) (N + 1) (N + 1) 2 ck) (some (.int .i64 1)) none none = some (.slc (some (bb, 1)) N N 2 ck) := by
  unfold sliceV
  dsimp only
  rw [bounds_s1]
  cases ck with
  | opaq => exact absurd rfl hck
  | exact => simp
  | tail => simp
def byV (r : Int) : AV := if r < 0 then .tup [.int .i64 0, .int .i64 20] else .tup [.int .i64 (r + 1), .int .i64 0]
theorem by_call {R : River} {D : Nat} {logs : Int} (hd : R.days = (D : Int)) (hv : Valid R) (hr : RivAt h v R) (hf : Fresh h n) (h0 : 0 ≤ logs) :
    ∃ r : Int, (lim ft (oraOf 10 true)).call (.fn 17 [] []) [v, .int .i64 logs] ⟨h, n, fl⟩ = some (byV r, ⟨h, n, fl⟩) ∧ FirstOf (fun j => decide (logs ≤ bom R (j + 1))) D r := by
  obtain ⟨sl, rfl, hs⟩ := id hr
  obtain ⟨a, c, e, ck, rfl⟩ := hs.shape (List.length_map _)
  have hd2 := hv.d2
  have f1 : Fresh (h.put n (some (.cells [.int .i64 R.days, .slc a R.rs.length c e ck] false))) (n + 1) := hf.put (by omega) (by omega)
  have f2 := f1.put (b := n + 1) (o := some (.cells [.int .i64 logs] false)) (n' := n + 2) (by omega) (by omega)
  have hs2 := (hs.put (o := some (.cells [.int .i64 R.days, .slc a R.rs.length c e ck] false)) hf (Nat.le_refl _)).put (o := some (.cells [.int .i64 logs] false)) f1 (Nat.le_refl _)
  have c1 := chk36_call (n := n + 2) (fl := n) (v := .agg [.int .i64 R.days, .slc a R.rs.length c e ck]) ⟨_, rfl, hs2⟩ f2 hv (l := []) (s := .slc none 0 0 0 .exact) slv_nil (by simp) (by simp)
  obtain ⟨v1, σ1, e1, h3, n3, y, P, C, B, rfl, rfl, hy⟩ := early_call (n := n + 2) (fl := n) hd hv hs2 f2 (by omega)
  obtain ⟨bb, ck2, rfl, hck, hbb⟩ : ∃ bb ck2, B = .slc (some (bb, 0)) (D + 1) (D + 1) 2 ck2 ∧ ck2 ≠ .opaq ∧ h3.get bb = some (.cells (ints ((List.range (D + 1)).map (bom R))) false) := by
    rcases hy.boom.here with ⟨_, rfl, k1, _⟩ | ⟨b2, ck, rfl, k2, k3⟩
    · omega
    · exact ⟨b2, ck, rfl, k2, k3⟩
  have hsl1 := slice_s1 (bb := bb) (N := D) hck
  have hlg : h3.get (n + 1) = some (.cells [.int .i64 logs] false) := by rw [hy.frame _ (by omega), hget_eq]
  have hsl : SlI h3 (.slc (some (bb, 1)) D D 2 ck2) ((List.range D).map fun j => bom R (j + 1)) := by
    refine ⟨some (bb, 1), D, 2, ck2, by simp [ints], fun i x hx => ⟨bb, 1, rfl, fun n fl => ?_⟩⟩
    have hi : i < D := by have := (List.getElem?_eq_some_iff.1 hx).1; simpa [ints] using this
    rw [ld1, hbb, rd1_s]
    unfold ints at hx ⊢
    rw [List.map_map, List.getElem?_map, List.getElem?_range hi] at hx
    rw [List.map_map, List.getElem?_map, List.getElem?_range (show 1 + i * 1 < D + 1 by omega)]
    rw [← hx]
    show some (AV.int .i64 (bom R (1 + i * 1))) = some (AV.int .i64 (bom R (i + 1)))
    rw [show 1 + i * 1 = i + 1 by omega]
  obtain ⟨r, e3, hr3⟩ := first_call (n := n3) (h := h3) (fl := n) (f := .fn 40 [] [.ptr (some (n + 1, 0))]) (p := fun x => decide (logs ≤ x)) (by simp; omega) hsl hy.fresh (fun x σ hσ => by subst hσ; exact least_call hlg)
  rw [List.length_map, List.length_range] at hr3
  have hr4 : FirstOf (fun j => decide (logs ≤ bom R (j + 1))) D r := by
    have hg : ∀ j, j < D → ((List.range D).map fun j => bom R (j + 1)).getD j 0 = bom R (j + 1) := fun j hj => by
      rw [List.getD_eq_getElem?_getD, List.getElem?_map, List.getElem?_range hj]; rfl
    rcases hr3 with ⟨rfl, k1⟩ | ⟨k, k1, rfl, k2, k3⟩
    · exact .inl ⟨rfl, fun j hj => by have := k1 j hj; dsimp only at this; rw [hg j hj] at this; exact this⟩
    · exact .inr ⟨k, k1, rfl, by dsimp only at k2; rw [hg k k1] at k2; exact k2, fun j hj => by have := k3 j hj; dsimp only at this; rw [hg j (by omega)] at this; exact this⟩
  refine ⟨r, ?_, hr4⟩
  refine pure_call rfl (by rfl) rfl rfl (by unfold byV; split <;> rfl) ?_
  have hr5 : r < 40 := by rcases hr4 with ⟨rfl, _⟩ | ⟨k, k1, rfl, _⟩ <;> omega
  have hr6 : -1 ≤ r := by rcases hr4 with ⟨rfl, _⟩ | ⟨k, k1, rfl, _⟩ <;> omega
  have w1 : wrapF .i64 (r + 1) = r + 1 := wrap64 (by omega) (by omega)
  have q0 : ¬ logs < 0 := by omega
  by_cases c2 : r < 0
  · simp -implicitDefEqProofs only [a17, ev0, ev1, ev2, ev3, ev4, ev5, ev6, ev7, evx, if_true, if_false, Nat.reduceEqDiff, Nat.reduceAdd, Nat.reduceMul, Nat.reduceSub, ↓reduceIte, reduceCtorEq, Nat.reduceLeDiff, Nat.reduceLT, Int.reduceLE, Int.reduceLT, Int.reduceEq, Int.reduceNeg, Int.reduceToNat, c1, e1, hy.year, yc4, opdO_c, opdO_n, hsl1, e3, c2, q0, byV]
  · simp -implicitDefEqProofs only [a17, ev0, ev1, ev2, ev3, ev4, ev5, ev6, ev7, evx, if_true, if_false, Nat.reduceEqDiff, Nat.reduceAdd, Nat.reduceMul, Nat.reduceSub, ↓reduceIte, reduceCtorEq, Nat.reduceLeDiff, Nat.reduceLT, Int.reduceLE, Int.reduceLT, Int.reduceEq, Int.reduceNeg, Int.reduceToNat, c1, e1, hy.year, yc4, opdO_c, opdO_n, hsl1, e3, c2, q0, w1, byV]
end
end Go.AM
/- The bound of a cut. -/
namespace Go.AM
open Go
noncomputable section
variable {tm tm' : T AV} {σ σ' : AS} {h h' : T AObj} {n n' fl : Nat} {v w : AV} {sl P C B : AV} {g : List Int}

def befOf (F : List Int) (d : Nat) (x : Reach) : Int := if 0 ≤ x.down then F.getD x.down.toNat 0 else (d : Int) + 1
def cutAt (R : River) (F : List Int) (d i : Nat) : Int := (if (R.at i).ready < F.getD i 0 then (R.at i).logs else 0) + thr (R.at i) (F.getD i 0) (befOf F d (R.at i))
def cutB (R : River) (F : List Int) (d : Nat) : Int := sumTo (cutAt R F d) R.rs.length
theorem thr_bound {x : Reach} {days fm bf : Int} (ok : RangeOK x days) (hd : days ≤ 40) : 0 ≤ thr x fm bf ∧ thr x fm bf ≤ 41000 := by
  have o1 := ok.p1
  have o2 := ok.p2
  have o7 := ok.w1
  have o8 := ok.w2
  have := thr_up (x := x) (fm := fm) (bf := bf) ⟨o1, o2⟩ (x.hi.toNat + 1)
  unfold thr
  omega
theorem cut_up {R : River} (hv : Valid R) {F : List Int} {d : Nat} : ∀ i : Nat, i ≤ R.rs.length → 0 ≤ sumTo (cutAt R F d) i ∧ sumTo (cutAt R F d) i ≤ 51000 * i
  | 0, _ => by simp [sumTo]
  | i + 1, hi => by
    have := cut_up hv (F := F) (d := d) i (by omega)
    have ok := hv.ok (show i < R.rs.length by omega)
    have h1 := thr_bound (fm := F.getD i 0) (bf := befOf F d (R.at i)) ok hv.d2
    have o1 := ok.l1
    have o2 := ok.l2
    have h2 : 0 ≤ cutAt R F d i ∧ cutAt R F d i ≤ 51000 := by unfold cutAt; split <;> omega
    show 0 ≤ sumTo (cutAt R F d) i + cutAt R F d i ∧ sumTo (cutAt R F d) i + cutAt R F d i ≤ _
    omega
theorem cut_timed {R : River} {F : List Int} {d : Nat} {t : Int} : cutB (R.timed t) F d = t * cutB R F d := by
  unfold cutB
  rw [show (R.timed t).rs.length = R.rs.length from mapR_len _ _ _, ← sumTo_mul]
  refine sumTo_congr fun u hu => ?_
  unfold cutAt
  rw [show (R.timed t).at u = (R.at u).timed t from mapR_at hu, thr_timed, Int.mul_add]
  show (if (R.at u).ready < F.getD u 0 then t * (R.at u).logs else 0) + _ = _
  congr 1
  split
  · rfl
  · rw [Int.mul_zero]

theorem cut_L0 {R : River} {F : List Int} {d m0 : Nat} (hv : Valid R) (hd : (d : Int) ≤ R.days) (hlF : F.length = R.rs.length) (hF : ∀ (i : Nat) (a : Int), F[i]? = some a → 1 ≤ a ∧ a ≤ (d : Int) + 1) (hs : SlV h 8 (some 8) sl (R.rs.map Reach.av)) (hsF : SlI h v F) (hf : Fresh h m0) (hfl : fl ≤ m0)
    (h1 : tm.get 1 = some (.int .i64 (d : Int))) (h2 : tm.get 2 = some v) (h9 : tm.get 9 = some (.int .i64 0)) (h35 : tm.get 35 = some sl) (h36 : tm.get 36 = some (.int .i64 R.rs.length)) (h37 : tm.get 37 = some (.int .i64 0)) :
    Done ((lim ft (oraOf 10 true)).exec (.loop a16_L0) tm ⟨h, m0, fl⟩) fun x tm' σ' => x = .exit 1 ∧ ∃ h2 m2, tm'.get 9 = some (.int .i64 (cutB R F d)) ∧ σ' = ⟨h2, m2, fl⟩ := by
  have hl1 := hv.l1
  have hl8 := hv.l2
  have hd2 := hv.d2
  obtain ⟨a, c, e, ck, rfl⟩ := hs.shape (List.length_map _)
  obtain ⟨a2, c2, e2, ck2, rfl⟩ := hsF.shape ints_len
  refine loop_up (fun i tm σ => tm.get 1 = some (.int .i64 (d : Int)) ∧ tm.get 2 = some (.slc a2 F.length c2 e2 ck2) ∧ tm.get 9 = some (.int .i64 (sumTo (cutAt R F d) i)) ∧ tm.get 35 = some (.slc a R.rs.length c e ck) ∧ tm.get 36 = some (.int .i64 R.rs.length) ∧ tm.get 37 = some (.int .i64 (i : Int)) ∧
      ∃ h2 m2, σ = ⟨h2, m2, fl⟩ ∧ m0 ≤ m2 ∧ Fresh h2 m2 ∧ Agree m0 h h2) _ R.rs.length ?_ ?_
    R.rs.length 0 tm _ (by simp) ⟨h1, h2, h9, h35, h36, h37, h, m0, rfl, Nat.le_refl _, hf, Agree.refl⟩
  · intro i tm σ hi ⟨h1, h2, h9, h35, h36, h37, hh, m, hσ, hm, hfm, ha⟩ S hI hQ
    subst hσ
    have hlt : ((i : Int) < (R.rs.length : Int)) := by omega
    have hw : wrapF .i64 ((i : Int) + 1) = ((i + 1 : Nat) : Int) := by rw [wrap64 (by omega) (by omega)]; omega
    have hsm := hs.agree hf ha
    have hxi : (R.rs.map Reach.av)[i]? = some (Reach.av (R.at i)) := by rw [List.getElem?_map, List.getElem?_eq_getElem hi, at_of (List.getElem?_eq_getElem hi)]; rfl
    obtain ⟨sb, o, c', e', ck', q1, q2, q3, _⟩ := hsm.many hfm hxi (List.length_map _)
    have q0 : a = some (sb, o) := by injection q1
    subst q0
    have hiF : i < F.length := by omega
    have hFi : F[i]? = some (F.getD i 0) := by simp [List.getD_eq_getElem?_getD, hiF]
    have hFb := hF i _ hFi
    have hsFm : SlI hh (.slc a2 F.length c2 e2 ck2) F := hsF.agree hf ha
    obtain ⟨sf, of_, c3, e3, ck3, q4, q5, q6⟩ := SlV.one hsFm hfm (ints_get hFi) ints_len
    have q7 : a2 = some (sf, of_) := by injection q4
    subst q7
    rw [Nat.mul_one] at q6
    have ok := hv.ok hi
    have o10 := ok.l1
    have o11 := ok.l2
    have cu := cut_up hv (F := F) (d := d) i (by omega)
    have tb := thr_bound (fm := F.getD i 0) (bf := befOf F d (R.at i)) ok hd2
    have w1 : wrapF .i64 ((d : Int) + 1) = (d : Int) + 1 := wrap64 (by omega) (by omega)
    have w2 : wrapF .i64 (sumTo (cutAt R F d) i + (R.at i).logs) = sumTo (cutAt R F d) i + (R.at i).logs := wrap64 (by omega) (by omega)
    have w3 : wrapF .i64 (sumTo (cutAt R F d) i + (R.at i).logs + thr (R.at i) (F.getD i 0) (befOf F d (R.at i))) = sumTo (cutAt R F d) (i + 1) ∨ ¬ (R.at i).ready < F.getD i 0 := by
      by_cases c4 : (R.at i).ready < F.getD i 0
      · left
        rw [wrap64 (by omega) (by omega)]
        show _ = sumTo (cutAt R F d) i + cutAt R F d i
        unfold cutAt; rw [if_pos c4]; omega
      · right; exact c4
    have w4 : wrapF .i64 (sumTo (cutAt R F d) i + thr (R.at i) (F.getD i 0) (befOf F d (R.at i))) = sumTo (cutAt R F d) (i + 1) ∨ (R.at i).ready < F.getD i 0 := by
      by_cases c4 : (R.at i).ready < F.getD i 0
      · right; exact c4
      · left
        rw [wrap64 (by omega) (by omega)]
        show _ = sumTo (cutAt R F d) i + cutAt R F d i
        unfold cutAt; rw [if_neg c4]; omega
    have sm : (sb = m) = False := by simp; omega
    have fm : (sf = m) = False := by simp; omega
    have flm : fl ≤ m := by omega
    have fin : ∀ tm' : T AV, tm'.get 1 = some (.int .i64 (d : Int)) → tm'.get 2 = some (.slc (some (sf, of_)) F.length c2 e2 ck2) → tm'.get 9 = some (.int .i64 (sumTo (cutAt R F d) (i + 1))) → tm'.get 35 = some (.slc (some (sb, o)) R.rs.length c e ck) → tm'.get 36 = some (.int .i64 R.rs.length) → tm'.get 37 = some (.int .i64 ((i + 1 : Nat) : Int)) →
        S .normal tm' ⟨hh.put m (some (.cells (R.at i).cl false)), m + 1, fl⟩ := fun tm' a1 a2 a3 a4 a5 a6 =>
      hI _ _ ⟨a1, a2, a3, a4, a5, a6, _, m + 1, rfl, by omega, hfm.put (by omega) (by omega), ha.put (by omega)⟩
    simp only [Reach.cl] at fin
    by_cases dn : 0 ≤ (R.at i).down
    · obtain ⟨u, hu⟩ : ∃ u : Nat, (R.at i).down = u := ⟨(R.at i).down.toNat, by omega⟩
      have huR : u < F.length := by
        rcases hv.dn hi with h0 | ⟨h0, h00⟩
        · omega
        · omega
      have hu0 : (0 : Int) ≤ u := by omega
      have hFu : F[u]? = some (F.getD u 0) := by simp [List.getD_eq_getElem?_getD, huR]
      have hFub := hF u _ hFu
      obtain ⟨sf2, of2, c32, e32, ck32, q42, q52, q62⟩ := SlV.one hsFm hfm (ints_get hFu) ints_len
      cases q42
      rw [Nat.mul_one] at q62
      have hbe : befOf F d (R.at i) = F.getD u 0 := by unfold befOf; rw [if_pos dn, hu]; simp
      rw [hbe] at w3 w4
      have et := through_call (h := hh.put m (some (.cells (R.at i).cl false))) (n := m + 1) (fl := fl) (fm := F.getD i 0) (bf := F.getD u 0) ok hd2 (by omega)
      simp only [Reach.av, Reach.cl, hu] at et fin
      by_cases c4 : (R.at i).ready < F.getD i 0
      · have w3 := w3.resolve_right (fun hc => hc c4)
        simp -implicitDefEqProofs only [a16_L0, ev0, ev1, ev2, ev3, ev4, ev5, ev6, ev7, evx, if_true, if_false, Nat.reduceEqDiff, Nat.reduceAdd, Nat.reduceMul, Nat.reduceSub, ↓reduceIte, reduceCtorEq, Nat.reduceLeDiff, Nat.reduceLT, Int.reduceLE, Int.reduceLT, Int.reduceEq, Int.reduceNeg, Int.reduceToNat, h1, h2, h9, h35, h36, h37, hlt, hw, hi, q3, hu, hu0, huR, hiF, w1, w2, w3, sm, fm, q6, q62, c4, flm, et]
        exact fin _ (by simp -implicitDefEqProofs only [ev0, ev1, ev2, ev3, ev4, ev5, ev6, ev7, evx, if_true, if_false, Nat.reduceEqDiff, Nat.reduceAdd, Nat.reduceMul, Nat.reduceSub, ↓reduceIte, reduceCtorEq, Nat.reduceLeDiff, Nat.reduceLT, Int.reduceLE, Int.reduceLT, Int.reduceEq, Int.reduceNeg, Int.reduceToNat, h1]) (by simp -implicitDefEqProofs only [ev0, ev1, ev2, ev3, ev4, ev5, ev6, ev7, evx, if_true, if_false, Nat.reduceEqDiff, Nat.reduceAdd, Nat.reduceMul, Nat.reduceSub, ↓reduceIte, reduceCtorEq, Nat.reduceLeDiff, Nat.reduceLT, Int.reduceLE, Int.reduceLT, Int.reduceEq, Int.reduceNeg, Int.reduceToNat, h2]) (by simp -implicitDefEqProofs only [ev0, ev1, ev2, ev3, ev4, ev5, ev6, ev7, evx, if_true, if_false, Nat.reduceEqDiff, Nat.reduceAdd, Nat.reduceMul, Nat.reduceSub, ↓reduceIte, reduceCtorEq, Nat.reduceLeDiff, Nat.reduceLT, Int.reduceLE, Int.reduceLT, Int.reduceEq, Int.reduceNeg, Int.reduceToNat]) (by simp -implicitDefEqProofs only [ev0, ev1, ev2, ev3, ev4, ev5, ev6, ev7, evx, if_true, if_false, Nat.reduceEqDiff, Nat.reduceAdd, Nat.reduceMul, Nat.reduceSub, ↓reduceIte, reduceCtorEq, Nat.reduceLeDiff, Nat.reduceLT, Int.reduceLE, Int.reduceLT, Int.reduceEq, Int.reduceNeg, Int.reduceToNat, h35]) (by simp -implicitDefEqProofs only [ev0, ev1, ev2, ev3, ev4, ev5, ev6, ev7, evx, if_true, if_false, Nat.reduceEqDiff, Nat.reduceAdd, Nat.reduceMul, Nat.reduceSub, ↓reduceIte, reduceCtorEq, Nat.reduceLeDiff, Nat.reduceLT, Int.reduceLE, Int.reduceLT, Int.reduceEq, Int.reduceNeg, Int.reduceToNat, h36]) (by simp -implicitDefEqProofs only [ev0, ev1, ev2, ev3, ev4, ev5, ev6, ev7, evx, if_true, if_false, Nat.reduceEqDiff, Nat.reduceAdd, Nat.reduceMul, Nat.reduceSub, ↓reduceIte, reduceCtorEq, Nat.reduceLeDiff, Nat.reduceLT, Int.reduceLE, Int.reduceLT, Int.reduceEq, Int.reduceNeg, Int.reduceToNat])
      · have w4 := w4.resolve_right c4
        simp -implicitDefEqProofs only [a16_L0, ev0, ev1, ev2, ev3, ev4, ev5, ev6, ev7, evx, if_true, if_false, Nat.reduceEqDiff, Nat.reduceAdd, Nat.reduceMul, Nat.reduceSub, ↓reduceIte, reduceCtorEq, Nat.reduceLeDiff, Nat.reduceLT, Int.reduceLE, Int.reduceLT, Int.reduceEq, Int.reduceNeg, Int.reduceToNat, h1, h2, h9, h35, h36, h37, hlt, hw, hi, q3, hu, hu0, huR, hiF, w1, w4, sm, fm, q6, q62, c4, flm, et]
        exact fin _ (by simp -implicitDefEqProofs only [ev0, ev1, ev2, ev3, ev4, ev5, ev6, ev7, evx, if_true, if_false, Nat.reduceEqDiff, Nat.reduceAdd, Nat.reduceMul, Nat.reduceSub, ↓reduceIte, reduceCtorEq, Nat.reduceLeDiff, Nat.reduceLT, Int.reduceLE, Int.reduceLT, Int.reduceEq, Int.reduceNeg, Int.reduceToNat, h1]) (by simp -implicitDefEqProofs only [ev0, ev1, ev2, ev3, ev4, ev5, ev6, ev7, evx, if_true, if_false, Nat.reduceEqDiff, Nat.reduceAdd, Nat.reduceMul, Nat.reduceSub, ↓reduceIte, reduceCtorEq, Nat.reduceLeDiff, Nat.reduceLT, Int.reduceLE, Int.reduceLT, Int.reduceEq, Int.reduceNeg, Int.reduceToNat, h2]) (by simp -implicitDefEqProofs only [ev0, ev1, ev2, ev3, ev4, ev5, ev6, ev7, evx, if_true, if_false, Nat.reduceEqDiff, Nat.reduceAdd, Nat.reduceMul, Nat.reduceSub, ↓reduceIte, reduceCtorEq, Nat.reduceLeDiff, Nat.reduceLT, Int.reduceLE, Int.reduceLT, Int.reduceEq, Int.reduceNeg, Int.reduceToNat]) (by simp -implicitDefEqProofs only [ev0, ev1, ev2, ev3, ev4, ev5, ev6, ev7, evx, if_true, if_false, Nat.reduceEqDiff, Nat.reduceAdd, Nat.reduceMul, Nat.reduceSub, ↓reduceIte, reduceCtorEq, Nat.reduceLeDiff, Nat.reduceLT, Int.reduceLE, Int.reduceLT, Int.reduceEq, Int.reduceNeg, Int.reduceToNat, h35]) (by simp -implicitDefEqProofs only [ev0, ev1, ev2, ev3, ev4, ev5, ev6, ev7, evx, if_true, if_false, Nat.reduceEqDiff, Nat.reduceAdd, Nat.reduceMul, Nat.reduceSub, ↓reduceIte, reduceCtorEq, Nat.reduceLeDiff, Nat.reduceLT, Int.reduceLE, Int.reduceLT, Int.reduceEq, Int.reduceNeg, Int.reduceToNat, h36]) (by simp -implicitDefEqProofs only [ev0, ev1, ev2, ev3, ev4, ev5, ev6, ev7, evx, if_true, if_false, Nat.reduceEqDiff, Nat.reduceAdd, Nat.reduceMul, Nat.reduceSub, ↓reduceIte, reduceCtorEq, Nat.reduceLeDiff, Nat.reduceLT, Int.reduceLE, Int.reduceLT, Int.reduceEq, Int.reduceNeg, Int.reduceToNat])
    · have hbe : befOf F d (R.at i) = (d : Int) + 1 := by unfold befOf; rw [if_neg dn]
      rw [hbe] at w3 w4
      have et := through_call (h := hh.put m (some (.cells (R.at i).cl false))) (n := m + 1) (fl := fl) (fm := F.getD i 0) (bf := (d : Int) + 1) ok hd2 (by omega)
      simp only [Reach.av, Reach.cl] at et
      by_cases c4 : (R.at i).ready < F.getD i 0
      · have w3 := w3.resolve_right (fun hc => hc c4)
        simp -implicitDefEqProofs only [a16_L0, ev0, ev1, ev2, ev3, ev4, ev5, ev6, ev7, evx, if_true, if_false, Nat.reduceEqDiff, Nat.reduceAdd, Nat.reduceMul, Nat.reduceSub, ↓reduceIte, reduceCtorEq, Nat.reduceLeDiff, Nat.reduceLT, Int.reduceLE, Int.reduceLT, Int.reduceEq, Int.reduceNeg, Int.reduceToNat, h1, h2, h9, h35, h36, h37, hlt, hw, hi, q3, dn, hiF, w1, w2, w3, sm, fm, q6, c4, flm, et]
        exact fin _ (by simp -implicitDefEqProofs only [ev0, ev1, ev2, ev3, ev4, ev5, ev6, ev7, evx, if_true, if_false, Nat.reduceEqDiff, Nat.reduceAdd, Nat.reduceMul, Nat.reduceSub, ↓reduceIte, reduceCtorEq, Nat.reduceLeDiff, Nat.reduceLT, Int.reduceLE, Int.reduceLT, Int.reduceEq, Int.reduceNeg, Int.reduceToNat, h1]) (by simp -implicitDefEqProofs only [ev0, ev1, ev2, ev3, ev4, ev5, ev6, ev7, evx, if_true, if_false, Nat.reduceEqDiff, Nat.reduceAdd, Nat.reduceMul, Nat.reduceSub, ↓reduceIte, reduceCtorEq, Nat.reduceLeDiff, Nat.reduceLT, Int.reduceLE, Int.reduceLT, Int.reduceEq, Int.reduceNeg, Int.reduceToNat, h2]) (by simp -implicitDefEqProofs only [ev0, ev1, ev2, ev3, ev4, ev5, ev6, ev7, evx, if_true, if_false, Nat.reduceEqDiff, Nat.reduceAdd, Nat.reduceMul, Nat.reduceSub, ↓reduceIte, reduceCtorEq, Nat.reduceLeDiff, Nat.reduceLT, Int.reduceLE, Int.reduceLT, Int.reduceEq, Int.reduceNeg, Int.reduceToNat]) (by simp -implicitDefEqProofs only [ev0, ev1, ev2, ev3, ev4, ev5, ev6, ev7, evx, if_true, if_false, Nat.reduceEqDiff, Nat.reduceAdd, Nat.reduceMul, Nat.reduceSub, ↓reduceIte, reduceCtorEq, Nat.reduceLeDiff, Nat.reduceLT, Int.reduceLE, Int.reduceLT, Int.reduceEq, Int.reduceNeg, Int.reduceToNat, h35]) (by simp -implicitDefEqProofs only [ev0, ev1, ev2, ev3, ev4, ev5, ev6, ev7, evx, if_true, if_false, Nat.reduceEqDiff, Nat.reduceAdd, Nat.reduceMul, Nat.reduceSub, ↓reduceIte, reduceCtorEq, Nat.reduceLeDiff, Nat.reduceLT, Int.reduceLE, Int.reduceLT, Int.reduceEq, Int.reduceNeg, Int.reduceToNat, h36]) (by simp -implicitDefEqProofs only [ev0, ev1, ev2, ev3, ev4, ev5, ev6, ev7, evx, if_true, if_false, Nat.reduceEqDiff, Nat.reduceAdd, Nat.reduceMul, Nat.reduceSub, ↓reduceIte, reduceCtorEq, Nat.reduceLeDiff, Nat.reduceLT, Int.reduceLE, Int.reduceLT, Int.reduceEq, Int.reduceNeg, Int.reduceToNat])
      · have w4 := w4.resolve_right c4
        simp -implicitDefEqProofs only [a16_L0, ev0, ev1, ev2, ev3, ev4, ev5, ev6, ev7, evx, if_true, if_false, Nat.reduceEqDiff, Nat.reduceAdd, Nat.reduceMul, Nat.reduceSub, ↓reduceIte, reduceCtorEq, Nat.reduceLeDiff, Nat.reduceLT, Int.reduceLE, Int.reduceLT, Int.reduceEq, Int.reduceNeg, Int.reduceToNat, h1, h2, h9, h35, h36, h37, hlt, hw, hi, q3, dn, hiF, w1, w4, sm, fm, q6, c4, flm, et]
        exact fin _ (by simp -implicitDefEqProofs only [ev0, ev1, ev2, ev3, ev4, ev5, ev6, ev7, evx, if_true, if_false, Nat.reduceEqDiff, Nat.reduceAdd, Nat.reduceMul, Nat.reduceSub, ↓reduceIte, reduceCtorEq, Nat.reduceLeDiff, Nat.reduceLT, Int.reduceLE, Int.reduceLT, Int.reduceEq, Int.reduceNeg, Int.reduceToNat, h1]) (by simp -implicitDefEqProofs only [ev0, ev1, ev2, ev3, ev4, ev5, ev6, ev7, evx, if_true, if_false, Nat.reduceEqDiff, Nat.reduceAdd, Nat.reduceMul, Nat.reduceSub, ↓reduceIte, reduceCtorEq, Nat.reduceLeDiff, Nat.reduceLT, Int.reduceLE, Int.reduceLT, Int.reduceEq, Int.reduceNeg, Int.reduceToNat, h2]) (by simp -implicitDefEqProofs only [ev0, ev1, ev2, ev3, ev4, ev5, ev6, ev7, evx, if_true, if_false, Nat.reduceEqDiff, Nat.reduceAdd, Nat.reduceMul, Nat.reduceSub, ↓reduceIte, reduceCtorEq, Nat.reduceLeDiff, Nat.reduceLT, Int.reduceLE, Int.reduceLT, Int.reduceEq, Int.reduceNeg, Int.reduceToNat]) (by simp -implicitDefEqProofs only [ev0, ev1, ev2, ev3, ev4, ev5, ev6, ev7, evx, if_true, if_false, Nat.reduceEqDiff, Nat.reduceAdd, Nat.reduceMul, Nat.reduceSub, ↓reduceIte, reduceCtorEq, Nat.reduceLeDiff, Nat.reduceLT, Int.reduceLE, Int.reduceLT, Int.reduceEq, Int.reduceNeg, Int.reduceToNat, h35]) (by simp -implicitDefEqProofs only [ev0, ev1, ev2, ev3, ev4, ev5, ev6, ev7, evx, if_true, if_false, Nat.reduceEqDiff, Nat.reduceAdd, Nat.reduceMul, Nat.reduceSub, ↓reduceIte, reduceCtorEq, Nat.reduceLeDiff, Nat.reduceLT, Int.reduceLE, Int.reduceLT, Int.reduceEq, Int.reduceNeg, Int.reduceToNat, h36]) (by simp -implicitDefEqProofs only [ev0, ev1, ev2, ev3, ev4, ev5, ev6, ev7, evx, if_true, if_false, Nat.reduceEqDiff, Nat.reduceAdd, Nat.reduceMul, Nat.reduceSub, ↓reduceIte, reduceCtorEq, Nat.reduceLeDiff, Nat.reduceLT, Int.reduceLE, Int.reduceLT, Int.reduceEq, Int.reduceNeg, Int.reduceToNat])
  · intro tm σ ⟨h1, h2, h9, h35, h36, h37, hh, m, hσ, hm, hfm, ha⟩ S hQ
    subst hσ
    have hlt : ¬ ((R.rs.length : Int) < (R.rs.length : Int)) := by omega
    simp -implicitDefEqProofs only [a16_L0, ev0, ev1, ev2, ev3, ev4, ev5, ev6, ev7, evx, if_true, if_false, Nat.reduceEqDiff, Nat.reduceAdd, Nat.reduceMul, Nat.reduceSub, ↓reduceIte, reduceCtorEq, Nat.reduceLeDiff, Nat.reduceLT, Int.reduceLE, Int.reduceLT, Int.reduceEq, Int.reduceNeg, Int.reduceToNat, h36, h37, hlt]
    exact hQ _ _ _ (by simp) ⟨rfl, hh, m, by simp -implicitDefEqProofs only [ev0, ev1, ev2, ev3, ev4, ev5, ev6, ev7, evx, if_true, if_false, Nat.reduceEqDiff, Nat.reduceAdd, Nat.reduceMul, Nat.reduceSub, ↓reduceIte, reduceCtorEq, Nat.reduceLeDiff, Nat.reduceLT, Int.reduceLE, Int.reduceLT, Int.reduceEq, Int.reduceNeg, Int.reduceToNat, h9]; rfl, rfl⟩

theorem cut_call {R : River} {F : List Int} {d : Nat} (hv : Valid R) (hr : RivAt h v R) (hf : Fresh h n) (hd1 : 1 ≤ d) (hd : (d : Int) ≤ R.days) (hlF : F.length = R.rs.length) (hF : ∀ (i : Nat) (a : Int), F[i]? = some a → 1 ≤ a ∧ a ≤ (d : Int) + 1) (hsF : SlI h w F) :
    (lim ft (oraOf 10 true)).call (.fn 16 [] []) [v, .int .i64 (d : Int), w] ⟨h, n, fl⟩ = some (.tup [.int .i64 (cutB R F d), .int .i64 0], ⟨h, n, fl⟩) := by
  obtain ⟨sl, rfl, hs⟩ := id hr
  obtain ⟨a, c, e, ck, rfl⟩ := hs.shape (List.length_map _)
  obtain ⟨a2, c2, e2, ck2, rfl⟩ := hsF.shape ints_len
  have hd2 := hv.d2
  have hl8 := hv.l2
  have f1 : Fresh (h.put n (some (.cells [.int .i64 R.days, .slc a R.rs.length c e ck] false))) (n + 1) := hf.put (by omega) (by omega)
  have f2 := f1.put (b := n + 1) (o := some (.cells [.int .i64 (d : Int)] false)) (n' := n + 2) (by omega) (by omega)
  have hs1 := hs.put (o := some (.cells [.int .i64 R.days, .slc a R.rs.length c e ck] false)) hf (Nat.le_refl _)
  have hs2 := hs1.put (o := some (.cells [.int .i64 (d : Int)] false)) f1 (Nat.le_refl _)
  have hF2 : SlI ((h.put n (some (.cells [.int .i64 R.days, .slc a R.rs.length c e ck] false))).put (n + 1) (some (.cells [.int .i64 (d : Int)] false))) (.slc a2 F.length c2 e2 ck2) F := (SlV.put hsF hf (Nat.le_refl _)).put f1 (Nat.le_refl _)
  have hsl : SlI ((h.put n (some (.cells [.int .i64 R.days, .slc a R.rs.length c e ck] false))).put (n + 1) (some (.cells [.int .i64 (d : Int)] false))) (.slc (some (n + 1, 0)) 1 1 2 .exact) [(d : Int)] := SlV.block1 (xs := [.int .i64 (d : Int)]) (ro := false) hget_eq
  have c1 := chk36_call (n := n + 2) (fl := n) (v := .agg [.int .i64 R.days, .slc a R.rs.length c e ck]) ⟨_, rfl, hs2⟩ f2 hv hsl (by simp) (by simp [inB]; omega)
  have hin : F.all (inB 1 ((d : Int) + 1)) = true := by
    rw [List.all_eq_true]
    intro x hx
    obtain ⟨i, hi⟩ := List.getElem?_of_mem hx
    have := hF i x hi
    simp [inB]; omega
  have c3 := within_call (lo := 1) (hi := (d : Int) + 1) (n := n + 2) (fl := n) hF2 (by omega) f2
  rw [hin] at c3
  have w1 : wrapF .i64 ((d : Int) + 1) = (d : Int) + 1 := wrap64 (by omega) (by omega)
  have hlq : (F.length : Int) = (R.rs.length : Int) := by omega
  refine pure_call rfl (by rfl) rfl rfl rfl ?_
  rw [hlF] at c3 hF2
  rw [hlF]
  simp -implicitDefEqProofs only [a16, ev0, ev1, ev2, ev3, ev4, ev5, ev6, ev7, evx, if_true, if_false, Nat.reduceEqDiff, Nat.reduceAdd, Nat.reduceMul, Nat.reduceSub, ↓reduceIte, reduceCtorEq, Nat.reduceLeDiff, Nat.reduceLT, Int.reduceLE, Int.reduceLT, Int.reduceEq, Int.reduceNeg, Int.reduceToNat, c1, w1, c3]
  generalize hT : T.put _ 37 _ = T0
  obtain ⟨x, tm', σ', e1, rfl, h5, m5, t9, rfl⟩ := cut_L0 (tm := T0) (fl := n) (m0 := n + 2) hv hd hlF hF hs2 hF2 f2 (by omega) (by subst hT; simp -implicitDefEqProofs only [ev0, ev1, ev2, ev3, ev4, ev5, ev6, ev7, evx, if_true, if_false, Nat.reduceEqDiff, Nat.reduceAdd, Nat.reduceMul, Nat.reduceSub, ↓reduceIte, reduceCtorEq, Nat.reduceLeDiff, Nat.reduceLT, Int.reduceLE, Int.reduceLT, Int.reduceEq, Int.reduceNeg, Int.reduceToNat]) (by subst hT; simp -implicitDefEqProofs only [ev0, ev1, ev2, ev3, ev4, ev5, ev6, ev7, evx, if_true, if_false, Nat.reduceEqDiff, Nat.reduceAdd, Nat.reduceMul, Nat.reduceSub, ↓reduceIte, reduceCtorEq, Nat.reduceLeDiff, Nat.reduceLT, Int.reduceLE, Int.reduceLT, Int.reduceEq, Int.reduceNeg, Int.reduceToNat]) (by subst hT; simp -implicitDefEqProofs only [ev0, ev1, ev2, ev3, ev4, ev5, ev6, ev7, evx, if_true, if_false, Nat.reduceEqDiff, Nat.reduceAdd, Nat.reduceMul, Nat.reduceSub, ↓reduceIte, reduceCtorEq, Nat.reduceLeDiff, Nat.reduceLT, Int.reduceLE, Int.reduceLT, Int.reduceEq, Int.reduceNeg, Int.reduceToNat]) (by subst hT; simp -implicitDefEqProofs only [ev0, ev1, ev2, ev3, ev4, ev5, ev6, ev7, evx, if_true, if_false, Nat.reduceEqDiff, Nat.reduceAdd, Nat.reduceMul, Nat.reduceSub, ↓reduceIte, reduceCtorEq, Nat.reduceLeDiff, Nat.reduceLT, Int.reduceLE, Int.reduceLT, Int.reduceEq, Int.reduceNeg, Int.reduceToNat]) (by subst hT; simp -implicitDefEqProofs only [ev0, ev1, ev2, ev3, ev4, ev5, ev6, ev7, evx, if_true, if_false, Nat.reduceEqDiff, Nat.reduceAdd, Nat.reduceMul, Nat.reduceSub, ↓reduceIte, reduceCtorEq, Nat.reduceLeDiff, Nat.reduceLT, Int.reduceLE, Int.reduceLT, Int.reduceEq, Int.reduceNeg, Int.reduceToNat]) (by subst hT; simp -implicitDefEqProofs only [ev0, ev1, ev2, ev3, ev4, ev5, ev6, ev7, evx, if_true, if_false, Nat.reduceEqDiff, Nat.reduceAdd, Nat.reduceMul, Nat.reduceSub, ↓reduceIte, reduceCtorEq, Nat.reduceLeDiff, Nat.reduceLT, Int.reduceLE, Int.reduceLT, Int.reduceEq, Int.reduceNeg, Int.reduceToNat])
  simp -implicitDefEqProofs only [e1, ev0, ev1, ev2, ev3, ev4, ev5, ev6, ev7, evx, if_true, if_false, Nat.reduceEqDiff, Nat.reduceAdd, Nat.reduceMul, Nat.reduceSub, ↓reduceIte, reduceCtorEq, Nat.reduceLeDiff, Nat.reduceLT, Int.reduceLE, Int.reduceLT, Int.reduceEq, Int.reduceNeg, Int.reduceToNat, t9]
end
end Go.AM
/- The first days of a cut, by numbers. -/
namespace Go.AM
open Go
noncomputable section
variable {tm tm' : T AV} {σ σ' : AS} {h h' : T AObj} {n n' fl : Nat} {v w : AV} {sl P C B : AV} {g : List Int}

def SlB (h : T AObj) (v : AV) (l : List Int) : Prop := SlV h 1 none v (l.map (.int .u8))
theorem firsts_L0 {R : River} {bs : List Int} {d m0 : Nat} (hl8 : R.rs.length ≤ 8) (hd : d ≤ 40) (hlb : bs.length ≤ 20) (hb : ∀ a ∈ bs, 0 ≤ a ∧ a ≤ 255) (hsb : SlB h w bs) (hf : Fresh h m0) (hfl : fl ≤ m0) (hn : n < m0) {a0 : Option (Nat × Nat)} {c0 e0 : Nat} {ck0 : CK}
    (hbox : h.get n = some (.cells [.int .i64 R.days, .slc a0 R.rs.length c0 e0 ck0] false))
    (h1 : tm.get 1 = some (.int .i64 (d : Int))) (h2 : tm.get 2 = some w) (h3 : tm.get 3 = some (.ptr (some (n, 0)))) (h7 : tm.get 7 = some (.slc none 0 0 0 .exact)) (h8 : tm.get 8 = some (.int .i64 0)) :
    Done ((lim ft (oraOf 10 true)).exec (.loop a15_L0) tm ⟨h, m0, fl⟩) fun x tm' σ' => x = .exit 0 ∧ ∃ h2 m2 Q l, tm'.get 7 = some Q ∧ σ' = ⟨h2, m2, fl⟩ ∧ m0 ≤ m2 ∧ Fresh h2 m2 ∧ Agree m0 h h2 ∧ GrowSl h2 2 1 Q R.rs.length (ints l) ∧ ∀ a ∈ l, 1 ≤ a ∧ a ≤ (d : Int) + 1 := by
  obtain ⟨a, c, e, ck, rfl⟩ := SlV.shape hsb (List.length_map _)
  refine loop_up (fun k tm σ => tm.get 1 = some (.int .i64 (d : Int)) ∧ tm.get 2 = some (.slc a bs.length c e ck) ∧ tm.get 3 = some (.ptr (some (n, 0))) ∧ tm.get 8 = some (.int .i64 (k : Int)) ∧
      ∃ h2 m2 Q l, tm.get 7 = some Q ∧ σ = ⟨h2, m2, fl⟩ ∧ m0 ≤ m2 ∧ Fresh h2 m2 ∧ Agree m0 h h2 ∧ GrowSl h2 2 1 Q k (ints l) ∧ (∀ a ∈ l, 1 ≤ a ∧ a ≤ (d : Int) + 1) ∧ ∀ b, blkOf Q = some b → m0 ≤ b) _ R.rs.length ?_ ?_
    R.rs.length 0 tm _ (by simp) ⟨h1, h2, h3, h8, h, m0, _, [], h7, rfl, Nat.le_refl _, hf, Agree.refl, GrowSl.nil, fun a ha => (by cases ha), fun b e => by cases e⟩
  · intro k tm σ hk ⟨h1, h2, h3, h8, hh, m2, Q, l, h7, hσ, hm, hfm, ha, hg, hl, hq⟩ S hI hQ
    subst hσ
    have hlt : ((k : Int) < (R.rs.length : Int)) := by omega
    have hw : wrapF .i64 ((k : Int) + 1) = ((k + 1 : Nat) : Int) := by rw [wrap64 (by omega) (by omega)]; omega
    have b0 : hh.get n = some (.cells [.int .i64 R.days, .slc a0 R.rs.length c0 e0 ck0] false) := by rw [ha n hn, hbox]
    have main : ∀ x : Int, 1 ≤ x ∧ x ≤ (d : Int) + 1 → ∃ h3, appendV ⟨hh.put m2 (some (.cells [.int .i64 x] false)), m2 + 1, fl⟩ 2 1 8 Q (.slc (some (m2, 0)) 1 1 2 .exact) = some (.slc (some (m2 + 1, 0)) (k + 1) (k + 1) 2 .tail, ⟨h3, m2 + 2, fl⟩) ∧
        (∀ tm' : T AV, tm'.get 1 = some (.int .i64 (d : Int)) → tm'.get 2 = some (.slc a bs.length c e ck) → tm'.get 3 = some (.ptr (some (n, 0))) → tm'.get 8 = some (.int .i64 ((k + 1 : Nat) : Int)) → tm'.get 7 = some (.slc (some (m2 + 1, 0)) (k + 1) (k + 1) 2 .tail) → S .normal tm' ⟨h3, m2 + 2, fl⟩) := by
      intro x hx
      have g2 := hg.put (b := m2) (o := some (.cells [.int .i64 x] false)) fun e => by have := hg.lt hfm e; omega
      have f2 := hfm.put (b := m2) (o := some (.cells [.int .i64 x] false)) (n' := m2 + 1) (by omega) (by omega)
      obtain ⟨h3, ea, eg, ef, ek⟩ := g2.append (fl := fl) (bytes := 8) (k := 1) (bx := m2) (ox := 0) (c := 1) (e := 2) (ck := .exact) (new := [.int .i64 x]) (fun b hb' => by have := hq b hb'; omega) f2
        (by rw [hget_eq, rdk_s]; rfl) (by omega) (by omega) rfl rfl
      refine ⟨h3, ea, fun tm' t1 t2 t3 t8 t7 => hI _ _ ⟨t1, t2, t3, t8, h3, m2 + 2, _, l ++ [x], t7, rfl, by omega, ef, fun b hb' => ?_, ?_, fun y hy => ?_, fun b e => by cases e; omega⟩⟩
      · rw [ek b (by omega) (fun e => by have := hq b e; omega), hget_ne (by omega)]; exact ha b hb'
      · have : ints (l ++ [x]) = ints l ++ [.int .i64 x] := by simp [ints]
        rw [this]; exact eg
      · rcases List.mem_append.1 hy with hy | hy
        · exact hl y hy
        · simp at hy; subst hy; exact hx
    by_cases c1 : 0 < bs.length
    · have hgt : (0 : Int) < (bs.length : Int) := by omega
      have hl0 : ¬ ((bs.length : Int) = 0) := by omega
      obtain ⟨j, hj, hj2⟩ := idx_of (a := (k : Int)) (by omega) c1
      have hbm : SlB hh (.slc a bs.length c e ck) bs := SlV.agree hsb hf ha
      have hbj := hb bs[j] (List.getElem_mem _)
      obtain ⟨sb, o, c', e', ck', q1, q2, q3⟩ := SlV.one hbm hfm (i := j) (x := .int .u8 bs[j]) (by rw [List.getElem?_map, List.getElem?_eq_getElem hj2]; rfl) (List.length_map _)
      have q0 : a = some (sb, o) := by injection q1
      subst q0
      rw [Nat.mul_one] at q3
      have w0 : wrapF .i64 bs[j] = bs[j] := wrap64 (by omega) (by omega)
      have w1 : wrapF .i64 ((d : Int) + 1) = (d : Int) + 1 := wrap64 (by omega) (by omega)
      have q5 : ¬ ((d : Int) + 1 = 0) := by omega
      obtain ⟨r, hr, hrl, hru⟩ := tmod_small (a := bs[j]) (b := (d : Int) + 1) hbj.1 (by omega)
      have w2 : wrapF .i64 (1 + r) = 1 + r := wrap64 (by omega) (by omega)
      obtain ⟨h3', ea, fin⟩ := main (1 + r) (by omega)
      simp -implicitDefEqProofs only [a15_L0, ev0, ev1, ev2, ev3, ev4, ev5, ev6, ev7, evx, if_true, if_false, Nat.reduceEqDiff, Nat.reduceAdd, Nat.reduceMul, Nat.reduceSub, ↓reduceIte, reduceCtorEq, Nat.reduceLeDiff, Nat.reduceLT, Int.reduceLE, Int.reduceLT, Int.reduceEq, Int.reduceNeg, Int.reduceToNat, h1, h2, h3, h7, h8, b0, hlt, hw, hgt, hl0, hj, hj2, q3, w0, w1, q5, hr, w2, ea]
      exact fin _ (by simp -implicitDefEqProofs only [ev0, ev1, ev2, ev3, ev4, ev5, ev6, ev7, evx, if_true, if_false, Nat.reduceEqDiff, Nat.reduceAdd, Nat.reduceMul, Nat.reduceSub, ↓reduceIte, reduceCtorEq, Nat.reduceLeDiff, Nat.reduceLT, Int.reduceLE, Int.reduceLT, Int.reduceEq, Int.reduceNeg, Int.reduceToNat, h1]) (by simp -implicitDefEqProofs only [ev0, ev1, ev2, ev3, ev4, ev5, ev6, ev7, evx, if_true, if_false, Nat.reduceEqDiff, Nat.reduceAdd, Nat.reduceMul, Nat.reduceSub, ↓reduceIte, reduceCtorEq, Nat.reduceLeDiff, Nat.reduceLT, Int.reduceLE, Int.reduceLT, Int.reduceEq, Int.reduceNeg, Int.reduceToNat, h2]) (by simp -implicitDefEqProofs only [ev0, ev1, ev2, ev3, ev4, ev5, ev6, ev7, evx, if_true, if_false, Nat.reduceEqDiff, Nat.reduceAdd, Nat.reduceMul, Nat.reduceSub, ↓reduceIte, reduceCtorEq, Nat.reduceLeDiff, Nat.reduceLT, Int.reduceLE, Int.reduceLT, Int.reduceEq, Int.reduceNeg, Int.reduceToNat, h3]) (by simp -implicitDefEqProofs only [ev0, ev1, ev2, ev3, ev4, ev5, ev6, ev7, evx, if_true, if_false, Nat.reduceEqDiff, Nat.reduceAdd, Nat.reduceMul, Nat.reduceSub, ↓reduceIte, reduceCtorEq, Nat.reduceLeDiff, Nat.reduceLT, Int.reduceLE, Int.reduceLT, Int.reduceEq, Int.reduceNeg, Int.reduceToNat]) (by simp -implicitDefEqProofs only [ev0, ev1, ev2, ev3, ev4, ev5, ev6, ev7, evx, if_true, if_false, Nat.reduceEqDiff, Nat.reduceAdd, Nat.reduceMul, Nat.reduceSub, ↓reduceIte, reduceCtorEq, Nat.reduceLeDiff, Nat.reduceLT, Int.reduceLE, Int.reduceLT, Int.reduceEq, Int.reduceNeg, Int.reduceToNat])
    · have hgt : ¬ (0 : Int) < (bs.length : Int) := by omega
      obtain ⟨h3', ea, fin⟩ := main 1 (by omega)
      simp -implicitDefEqProofs only [a15_L0, ev0, ev1, ev2, ev3, ev4, ev5, ev6, ev7, evx, if_true, if_false, Nat.reduceEqDiff, Nat.reduceAdd, Nat.reduceMul, Nat.reduceSub, ↓reduceIte, reduceCtorEq, Nat.reduceLeDiff, Nat.reduceLT, Int.reduceLE, Int.reduceLT, Int.reduceEq, Int.reduceNeg, Int.reduceToNat, h1, h2, h3, h7, h8, b0, hlt, hw, hgt, ea]
      exact fin _ (by simp -implicitDefEqProofs only [ev0, ev1, ev2, ev3, ev4, ev5, ev6, ev7, evx, if_true, if_false, Nat.reduceEqDiff, Nat.reduceAdd, Nat.reduceMul, Nat.reduceSub, ↓reduceIte, reduceCtorEq, Nat.reduceLeDiff, Nat.reduceLT, Int.reduceLE, Int.reduceLT, Int.reduceEq, Int.reduceNeg, Int.reduceToNat, h1]) (by simp -implicitDefEqProofs only [ev0, ev1, ev2, ev3, ev4, ev5, ev6, ev7, evx, if_true, if_false, Nat.reduceEqDiff, Nat.reduceAdd, Nat.reduceMul, Nat.reduceSub, ↓reduceIte, reduceCtorEq, Nat.reduceLeDiff, Nat.reduceLT, Int.reduceLE, Int.reduceLT, Int.reduceEq, Int.reduceNeg, Int.reduceToNat, h2]) (by simp -implicitDefEqProofs only [ev0, ev1, ev2, ev3, ev4, ev5, ev6, ev7, evx, if_true, if_false, Nat.reduceEqDiff, Nat.reduceAdd, Nat.reduceMul, Nat.reduceSub, ↓reduceIte, reduceCtorEq, Nat.reduceLeDiff, Nat.reduceLT, Int.reduceLE, Int.reduceLT, Int.reduceEq, Int.reduceNeg, Int.reduceToNat, h3]) (by simp -implicitDefEqProofs only [ev0, ev1, ev2, ev3, ev4, ev5, ev6, ev7, evx, if_true, if_false, Nat.reduceEqDiff, Nat.reduceAdd, Nat.reduceMul, Nat.reduceSub, ↓reduceIte, reduceCtorEq, Nat.reduceLeDiff, Nat.reduceLT, Int.reduceLE, Int.reduceLT, Int.reduceEq, Int.reduceNeg, Int.reduceToNat]) (by simp -implicitDefEqProofs only [ev0, ev1, ev2, ev3, ev4, ev5, ev6, ev7, evx, if_true, if_false, Nat.reduceEqDiff, Nat.reduceAdd, Nat.reduceMul, Nat.reduceSub, ↓reduceIte, reduceCtorEq, Nat.reduceLeDiff, Nat.reduceLT, Int.reduceLE, Int.reduceLT, Int.reduceEq, Int.reduceNeg, Int.reduceToNat])
  · intro tm σ ⟨h1, h2, h3, h8, hh, m2, Q, l, h7, hσ, hm, hfm, ha, hg, hl, hq⟩ S hQ
    subst hσ
    have hlt : ¬ ((R.rs.length : Int) < (R.rs.length : Int)) := by omega
    have b0 : hh.get n = some (.cells [.int .i64 R.days, .slc a0 R.rs.length c0 e0 ck0] false) := by rw [ha n hn, hbox]
    simp -implicitDefEqProofs only [a15_L0, ev0, ev1, ev2, ev3, ev4, ev5, ev6, ev7, evx, if_true, if_false, Nat.reduceEqDiff, Nat.reduceAdd, Nat.reduceMul, Nat.reduceSub, ↓reduceIte, reduceCtorEq, Nat.reduceLeDiff, Nat.reduceLT, Int.reduceLE, Int.reduceLT, Int.reduceEq, Int.reduceNeg, Int.reduceToNat, h3, h8, b0, hlt]
    exact hQ _ _ _ (by simp) ⟨rfl, hh, m2, Q, l, by simp -implicitDefEqProofs only [ev0, ev1, ev2, ev3, ev4, ev5, ev6, ev7, evx, if_true, if_false, Nat.reduceEqDiff, Nat.reduceAdd, Nat.reduceMul, Nat.reduceSub, ↓reduceIte, reduceCtorEq, Nat.reduceLeDiff, Nat.reduceLT, Int.reduceLE, Int.reduceLT, Int.reduceEq, Int.reduceNeg, Int.reduceToNat, h7], rfl, hm, hfm, ha, hg, hl⟩

theorem firsts_call {R : River} {bs : List Int} {d : Nat} (hv : Valid R) (hr : RivAt h v R) (hf : Fresh h n) (hfl : fl ≤ n) (hd : d ≤ 40) (hlb : bs.length ≤ 20) (hb : ∀ a ∈ bs, 0 ≤ a ∧ a ≤ 255) (hsb : SlB h w bs) :
    ∃ u σ', (lim ft (oraOf 10 true)).call (.fn 15 [] []) [v, .int .i64 (d : Int), w] ⟨h, n, fl⟩ = some (u, σ') ∧ ∃ h' n' l, σ' = ⟨h', n', fl⟩ ∧ n ≤ n' ∧ Fresh h' n' ∧ Agree n h h' ∧ SlI h' u l ∧ l.length = R.rs.length ∧ ∀ (i : Nat) (a : Int), l[i]? = some a → 1 ≤ a ∧ a ≤ (d : Int) + 1 := by
  obtain ⟨sl, rfl, hs⟩ := id hr
  obtain ⟨a, c, e, ck, rfl⟩ := hs.shape (List.length_map _)
  obtain ⟨a2, c2, e2, ck2, rfl⟩ := SlV.shape hsb (List.length_map _)
  have f1 : Fresh (h.put n (some (.cells [.int .i64 R.days, .slc a R.rs.length c e ck] false))) (n + 1) := hf.put (by omega) (by omega)
  have hb1 : SlB (h.put n (some (.cells [.int .i64 R.days, .slc a R.rs.length c e ck] false))) (.slc a2 bs.length c2 e2 ck2) bs := SlV.put hsb hf (Nat.le_refl _)
  refine call_done rfl (by rfl) rfl rfl fun S hS => ?_
  simp -implicitDefEqProofs only [a15, ev0, ev1, ev2, ev3, ev4, ev5, ev6, ev7, evx, if_true, if_false, Nat.reduceEqDiff, Nat.reduceAdd, Nat.reduceMul, Nat.reduceSub, ↓reduceIte, reduceCtorEq, Nat.reduceLeDiff, Nat.reduceLT, Int.reduceLE, Int.reduceLT, Int.reduceEq, Int.reduceNeg, Int.reduceToNat]
  generalize hT : T.put _ 8 _ = T0
  obtain ⟨x, tm', σ', e2, rfl, h4, m4, Q, l, t7, rfl, hm, hf4, ha4, hg, hl⟩ := firsts_L0 (tm := T0) (fl := fl) (n := n) hv.l2 hd hlb hb hb1 f1 (by omega) (by omega) hget_eq (by subst hT; simp -implicitDefEqProofs only [ev0, ev1, ev2, ev3, ev4, ev5, ev6, ev7, evx, if_true, if_false, Nat.reduceEqDiff, Nat.reduceAdd, Nat.reduceMul, Nat.reduceSub, ↓reduceIte, reduceCtorEq, Nat.reduceLeDiff, Nat.reduceLT, Int.reduceLE, Int.reduceLT, Int.reduceEq, Int.reduceNeg, Int.reduceToNat]) (by subst hT; simp -implicitDefEqProofs only [ev0, ev1, ev2, ev3, ev4, ev5, ev6, ev7, evx, if_true, if_false, Nat.reduceEqDiff, Nat.reduceAdd, Nat.reduceMul, Nat.reduceSub, ↓reduceIte, reduceCtorEq, Nat.reduceLeDiff, Nat.reduceLT, Int.reduceLE, Int.reduceLT, Int.reduceEq, Int.reduceNeg, Int.reduceToNat]) (by subst hT; simp -implicitDefEqProofs only [ev0, ev1, ev2, ev3, ev4, ev5, ev6, ev7, evx, if_true, if_false, Nat.reduceEqDiff, Nat.reduceAdd, Nat.reduceMul, Nat.reduceSub, ↓reduceIte, reduceCtorEq, Nat.reduceLeDiff, Nat.reduceLT, Int.reduceLE, Int.reduceLT, Int.reduceEq, Int.reduceNeg, Int.reduceToNat]) (by subst hT; simp -implicitDefEqProofs only [ev0, ev1, ev2, ev3, ev4, ev5, ev6, ev7, evx, if_true, if_false, Nat.reduceEqDiff, Nat.reduceAdd, Nat.reduceMul, Nat.reduceSub, ↓reduceIte, reduceCtorEq, Nat.reduceLeDiff, Nat.reduceLT, Int.reduceLE, Int.reduceLT, Int.reduceEq, Int.reduceNeg, Int.reduceToNat]) (by subst hT; simp -implicitDefEqProofs only [ev0, ev1, ev2, ev3, ev4, ev5, ev6, ev7, evx, if_true, if_false, Nat.reduceEqDiff, Nat.reduceAdd, Nat.reduceMul, Nat.reduceSub, ↓reduceIte, reduceCtorEq, Nat.reduceLeDiff, Nat.reduceLT, Int.reduceLE, Int.reduceLT, Int.reduceEq, Int.reduceNeg, Int.reduceToNat])
  simp -implicitDefEqProofs only [e2, ev0, ev1, ev2, ev3, ev4, ev5, ev6, ev7, evx, if_true, if_false, Nat.reduceEqDiff, Nat.reduceAdd, Nat.reduceMul, Nat.reduceSub, ↓reduceIte, reduceCtorEq, Nat.reduceLeDiff, Nat.reduceLT, Int.reduceLE, Int.reduceLT, Int.reduceEq, Int.reduceNeg, Int.reduceToNat, t7]
  refine hS _ _ _ Q (by simp) (by simp -implicitDefEqProofs only [a15, ev0, ev1, ev2, ev3, ev4, ev5, ev6, ev7, evx, if_true, if_false, Nat.reduceEqDiff, Nat.reduceAdd, Nat.reduceMul, Nat.reduceSub, ↓reduceIte, reduceCtorEq, Nat.reduceLeDiff, Nat.reduceLT, Int.reduceLE, Int.reduceLT, Int.reduceEq, Int.reduceNeg, Int.reduceToNat]) ⟨h4, m4, l, rfl, by omega, hf4, fun b hb' => ?_, hg.sli, ?_, fun i a ha => hl a (List.mem_of_getElem? ha)⟩
  · rw [ha4 b (by omega), hget_ne (by omega)]
  · have := hg.size; rw [ints_len] at this; omega
end
end Go.AM
