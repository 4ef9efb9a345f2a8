/- What the small functions of the drive come to, one by one: the checks. -/
import Derived.Test.YtidlikbpbkgbaaaMD
import Derived.Test.YtidlikbpbkgbaaaAst
set_option linter.all false
set_option linter.unusedVariables false
set_option linter.unusedSimpArgs false
set_option linter.unusedSectionVars false
namespace Go.AM
open Go
noncomputable section
variable {tm tm' : T AV} {σ σ' : AS} {h h' : T AObj} {n n' fl : Nat} {v : AV}

theorem works_call : (lim ft (oraOf 10 true)).call (.fn 10 [] []) [] σ = some (.bool true, σ) := by rw [call_eq]; rfl

theorem within1 {b1 b2 : Nat} {lo hi x : Int} {r1 r2 : Bool} (h1 : h.get b1 = some (.cells [.int .i64 lo] r1)) (h2 : h.get b2 = some (.cells [.int .i64 hi] r2)) :
    (lim ft (oraOf 10 true)).call (.fn 56 [] [.ptr (some (b1, 0)), .ptr (some (b2, 0))]) [.int .i64 x] ⟨h, n, fl⟩ = some (.bool (decide (x < lo) || decide (hi < x)), ⟨h, n, fl⟩) := by
  refine pure_call rfl (by rfl) rfl rfl rfl ?_
  simp -implicitDefEqProofs only [a56]
  by_cases p : x < lo
  · simp -implicitDefEqProofs only [ev0, ev1, ev2, ev3, ev4, ev5, ev6, ev7, evx, if_true, if_false, Nat.reduceEqDiff, Nat.reduceAdd, Nat.reduceMul, Nat.reduceSub, ↓reduceIte, reduceCtorEq, Nat.reduceLeDiff, Nat.reduceLT, Int.reduceLE, Int.reduceLT, Int.reduceEq, Int.reduceNeg, Int.reduceToNat, load1 h1, load1 h2, p]
  · simp -implicitDefEqProofs only [ev0, ev1, ev2, ev3, ev4, ev5, ev6, ev7, evx, if_true, if_false, Nat.reduceEqDiff, Nat.reduceAdd, Nat.reduceMul, Nat.reduceSub, ↓reduceIte, reduceCtorEq, Nat.reduceLeDiff, Nat.reduceLT, Int.reduceLE, Int.reduceLT, Int.reduceEq, Int.reduceNeg, Int.reduceToNat, load1 h1, load1 h2, p]
/-- Whether all numbers are from one to another one. -/
def inB (lo hi x : Int) : Bool := decide (lo ≤ x) && decide (x ≤ hi)
theorem any_all (lo hi : Int) : ∀ l : List Int, ((ints l).any fun x => match x with | .int _ a => decide (a < lo) || decide (hi < a) | _ => false) = !(l.all (inB lo hi))
  | [] => rfl
  | a :: l => by
    have e : (decide (a < lo) || decide (hi < a)) = !(inB lo hi a) := by
      unfold inB
      by_cases h1 : a < lo
      · simp [h1, show ¬ lo ≤ a by omega]
      · by_cases h2 : hi < a
        · simp [h2, show ¬ a ≤ hi by omega]
        · simp [h1, h2, show lo ≤ a by omega, show a ≤ hi by omega]
    have ih := any_all lo hi l
    unfold ints at ih ⊢
    simp only [List.map_cons, List.any_cons, List.all_cons]
    rw [e, ih, Bool.not_and]
theorem within_call {lo hi : Int} {l : List Int} (hs : SlI h v l) (hlen : l.length < 4611686018427387904) (hfr : Fresh h n) :
    (lim ft (oraOf 10 true)).call (.fn 37 [] []) [.int .i64 lo, .int .i64 hi, v] ⟨h, n, fl⟩ = some (.bool (l.all (inB lo hi)), ⟨h, n, fl⟩) := by
  refine pure_call rfl (by rfl) rfl rfl rfl ?_
  have hs2 : SlI ((h.put n (some (.cells [.int .i64 lo] false))).put (n + 1) (some (.cells [.int .i64 hi] false))) v l := by
    exact SlV.put (n := n + 1) (SlV.put (n := n) hs hfr (Nat.le_refl _)) (hfr.put (by omega) (by omega)) (Nat.le_refl _)
  have hc := has_call (O := (oraOf 10 true)) (ft := ft) (g := 61) (g2 := 55) (n := n + 1 + 1) (fl := n) (f := .fn 56 [] [.ptr (some (n, 0)), .ptr (some (n + 1, 0))]) (p := fun x => match x with | .int _ a => decide (a < lo) || decide (hi < a) | _ => false) (by rfl) (by rfl) rfl rfl hs2 (by simpa [ints] using hlen) (fun x hx => by
    obtain ⟨a, _, rfl⟩ := List.mem_map.1 hx
    exact within1 (r1 := false) (r2 := false) (by rw [hget_ne (by omega), hget_eq]) hget_eq)
  simp -implicitDefEqProofs only [a37, ev0, ev1, ev2, ev3, ev4, ev5, ev6, ev7, evx, if_true, if_false, Nat.reduceEqDiff, Nat.reduceAdd, Nat.reduceMul, Nat.reduceSub, ↓reduceIte, reduceCtorEq, Nat.reduceLeDiff, Nat.reduceLT, Int.reduceLE, Int.reduceLT, Int.reduceEq, Int.reduceNeg, Int.reduceToNat, hc]
  rw [any_all, Bool.not_not]
/-- The check of a few numbers that are listed. -/
theorem within_list {lo hi : Int} {l : List Int} {b c e : Nat} {ck : CK} {ro : Bool} (hlen : l.length < 4611686018427387904) (hg : h.get b = some (.cells (ints l) ro)) (hf : Fresh h n) :
    (lim ft (oraOf 10 true)).call (.fn 37 [] []) [.int .i64 lo, .int .i64 hi, .slc (some (b, 0)) l.length c e ck] ⟨h, n, fl⟩ = some (.bool (l.all (inB lo hi)), ⟨h, n, fl⟩) := by
  have := SlV.block1 (e := e) (ck := ck) (c := c) hg
  rw [ints_len] at this
  exact within_call this hlen hf
theorem within_1 {lo hi a : Int} {b c e : Nat} {ck : CK} {ro : Bool} (hf : Fresh (h.put b (some (.cells [.int .i64 a] ro))) n) :
    (lim ft (oraOf 10 true)).call (.fn 37 [] []) [.int .i64 lo, .int .i64 hi, .slc (some (b, 0)) 1 c e ck] ⟨h.put b (some (.cells [.int .i64 a] ro)), n, fl⟩ = some (.bool (inB lo hi a), ⟨h.put b (some (.cells [.int .i64 a] ro)), n, fl⟩) := by
  have := within_list (lo := lo) (hi := hi) (l := [a]) (e := e) (ck := ck) (c := c) (fl := fl) (by simp) hget_eq hf
  simpa [ints] using this
theorem within_3 {lo hi a1 a2 a3 : Int} {b c e : Nat} {ck : CK} {ro : Bool} (hf : Fresh (h.put b (some (.cells [.int .i64 a1, .int .i64 a2, .int .i64 a3] ro))) n) :
    (lim ft (oraOf 10 true)).call (.fn 37 [] []) [.int .i64 lo, .int .i64 hi, .slc (some (b, 0)) 3 c e ck] ⟨h.put b (some (.cells [.int .i64 a1, .int .i64 a2, .int .i64 a3] ro)), n, fl⟩ =
      some (.bool (inB lo hi a1 && inB lo hi a2 && inB lo hi a3), ⟨h.put b (some (.cells [.int .i64 a1, .int .i64 a2, .int .i64 a3] ro)), n, fl⟩) := by
  have := within_list (lo := lo) (hi := hi) (l := [a1, a2, a3]) (e := e) (ck := ck) (c := c) (fl := fl) (by simp) hget_eq hf
  simpa [ints, Bool.and_assoc] using this
end
end Go.AM
/- Rivers, and the reference's checks of them. -/
namespace Go.AM
open Go
noncomputable section
variable {tm tm' : T AV} {σ σ' : AS} {h h' : T AObj} {n n' fl : Nat} {v : AV}

structure Reach where
  down : Int
  pass : Int
  takes : Int
  lo : Int
  hi : Int
  every : Int
  logs : Int
  ready : Int
def Reach.av (r : Reach) : AV := .agg [.int .i64 r.down, .int .i64 r.pass, .int .i64 r.takes, .int .i64 r.lo, .int .i64 r.hi, .int .i64 r.every, .int .i64 r.logs, .int .i64 r.ready]
structure River where
  days : Int
  rs : List Reach
def ranged (r : Reach) (days : Int) : Bool := decide (0 ≤ r.pass ∧ r.pass ≤ 1000 ∧ 0 ≤ r.takes ∧ r.takes ≤ 10 ∧ 1 ≤ r.every ∧ r.every ≤ 10 ∧ 1 ≤ r.lo ∧ r.hi ≤ days ∧ r.lo ≤ r.hi ∧ 0 ≤ r.logs ∧ r.logs ≤ 10000 ∧ 1 ≤ r.ready ∧ r.ready ≤ days)
theorem ranged_call {r : Reach} {days : Int} : (lim ft (oraOf 10 true)).call (.fn 42 [] []) [r.av, .int .i64 days] ⟨h, n, fl⟩ = some (.bool (ranged r days), ⟨h, n, fl⟩) := by
  refine pure_call rfl (by rfl) rfl rfl rfl ?_
  by_cases p1 : r.pass < 0
  · have hr : ranged r days = false := by unfold ranged; simp only [decide_eq_false_iff_not]; omega
    rw [hr]; simp -implicitDefEqProofs only [Reach.av, a42, ev0, ev1, ev2, ev3, ev4, ev5, ev6, ev7, evx, if_true, if_false, Nat.reduceEqDiff, Nat.reduceAdd, Nat.reduceMul, Nat.reduceSub, ↓reduceIte, reduceCtorEq, Nat.reduceLeDiff, Nat.reduceLT, Int.reduceLE, Int.reduceLT, Int.reduceEq, Int.reduceNeg, Int.reduceToNat, p1]
  by_cases p2 : 1000 < r.pass
  · have hr : ranged r days = false := by unfold ranged; simp only [decide_eq_false_iff_not]; omega
    rw [hr]; simp -implicitDefEqProofs only [Reach.av, a42, ev0, ev1, ev2, ev3, ev4, ev5, ev6, ev7, evx, if_true, if_false, Nat.reduceEqDiff, Nat.reduceAdd, Nat.reduceMul, Nat.reduceSub, ↓reduceIte, reduceCtorEq, Nat.reduceLeDiff, Nat.reduceLT, Int.reduceLE, Int.reduceLT, Int.reduceEq, Int.reduceNeg, Int.reduceToNat, p1, p2]
  by_cases p3 : r.takes < 0
  · have hr : ranged r days = false := by unfold ranged; simp only [decide_eq_false_iff_not]; omega
    rw [hr]; simp -implicitDefEqProofs only [Reach.av, a42, ev0, ev1, ev2, ev3, ev4, ev5, ev6, ev7, evx, if_true, if_false, Nat.reduceEqDiff, Nat.reduceAdd, Nat.reduceMul, Nat.reduceSub, ↓reduceIte, reduceCtorEq, Nat.reduceLeDiff, Nat.reduceLT, Int.reduceLE, Int.reduceLT, Int.reduceEq, Int.reduceNeg, Int.reduceToNat, p1, p2, p3]
  by_cases p4 : 10 < r.takes
  · have hr : ranged r days = false := by unfold ranged; simp only [decide_eq_false_iff_not]; omega
    rw [hr]; simp -implicitDefEqProofs only [Reach.av, a42, ev0, ev1, ev2, ev3, ev4, ev5, ev6, ev7, evx, if_true, if_false, Nat.reduceEqDiff, Nat.reduceAdd, Nat.reduceMul, Nat.reduceSub, ↓reduceIte, reduceCtorEq, Nat.reduceLeDiff, Nat.reduceLT, Int.reduceLE, Int.reduceLT, Int.reduceEq, Int.reduceNeg, Int.reduceToNat, p1, p2, p3, p4]
  by_cases p5 : r.every < 1
  · have hr : ranged r days = false := by unfold ranged; simp only [decide_eq_false_iff_not]; omega
    rw [hr]; simp -implicitDefEqProofs only [Reach.av, a42, ev0, ev1, ev2, ev3, ev4, ev5, ev6, ev7, evx, if_true, if_false, Nat.reduceEqDiff, Nat.reduceAdd, Nat.reduceMul, Nat.reduceSub, ↓reduceIte, reduceCtorEq, Nat.reduceLeDiff, Nat.reduceLT, Int.reduceLE, Int.reduceLT, Int.reduceEq, Int.reduceNeg, Int.reduceToNat, p1, p2, p3, p4, p5]
  by_cases p6 : 10 < r.every
  · have hr : ranged r days = false := by unfold ranged; simp only [decide_eq_false_iff_not]; omega
    rw [hr]; simp -implicitDefEqProofs only [Reach.av, a42, ev0, ev1, ev2, ev3, ev4, ev5, ev6, ev7, evx, if_true, if_false, Nat.reduceEqDiff, Nat.reduceAdd, Nat.reduceMul, Nat.reduceSub, ↓reduceIte, reduceCtorEq, Nat.reduceLeDiff, Nat.reduceLT, Int.reduceLE, Int.reduceLT, Int.reduceEq, Int.reduceNeg, Int.reduceToNat, p1, p2, p3, p4, p5, p6]
  by_cases p7 : r.lo < 1
  · have hr : ranged r days = false := by unfold ranged; simp only [decide_eq_false_iff_not]; omega
    rw [hr]; simp -implicitDefEqProofs only [Reach.av, a42, ev0, ev1, ev2, ev3, ev4, ev5, ev6, ev7, evx, if_true, if_false, Nat.reduceEqDiff, Nat.reduceAdd, Nat.reduceMul, Nat.reduceSub, ↓reduceIte, reduceCtorEq, Nat.reduceLeDiff, Nat.reduceLT, Int.reduceLE, Int.reduceLT, Int.reduceEq, Int.reduceNeg, Int.reduceToNat, p1, p2, p3, p4, p5, p6, p7]
  by_cases p8 : days < r.hi
  · have hr : ranged r days = false := by unfold ranged; simp only [decide_eq_false_iff_not]; omega
    rw [hr]; simp -implicitDefEqProofs only [Reach.av, a42, ev0, ev1, ev2, ev3, ev4, ev5, ev6, ev7, evx, if_true, if_false, Nat.reduceEqDiff, Nat.reduceAdd, Nat.reduceMul, Nat.reduceSub, ↓reduceIte, reduceCtorEq, Nat.reduceLeDiff, Nat.reduceLT, Int.reduceLE, Int.reduceLT, Int.reduceEq, Int.reduceNeg, Int.reduceToNat, p1, p2, p3, p4, p5, p6, p7, p8]
  by_cases p9 : r.hi < r.lo
  · have hr : ranged r days = false := by unfold ranged; simp only [decide_eq_false_iff_not]; omega
    rw [hr]; simp -implicitDefEqProofs only [Reach.av, a42, ev0, ev1, ev2, ev3, ev4, ev5, ev6, ev7, evx, if_true, if_false, Nat.reduceEqDiff, Nat.reduceAdd, Nat.reduceMul, Nat.reduceSub, ↓reduceIte, reduceCtorEq, Nat.reduceLeDiff, Nat.reduceLT, Int.reduceLE, Int.reduceLT, Int.reduceEq, Int.reduceNeg, Int.reduceToNat, p1, p2, p3, p4, p5, p6, p7, p8, p9]
  by_cases p10 : ¬ 0 ≤ r.logs
  · have hr : ranged r days = false := by unfold ranged; simp only [decide_eq_false_iff_not]; omega
    rw [hr]; simp -implicitDefEqProofs only [Reach.av, a42, ev0, ev1, ev2, ev3, ev4, ev5, ev6, ev7, evx, if_true, if_false, Nat.reduceEqDiff, Nat.reduceAdd, Nat.reduceMul, Nat.reduceSub, ↓reduceIte, reduceCtorEq, Nat.reduceLeDiff, Nat.reduceLT, Int.reduceLE, Int.reduceLT, Int.reduceEq, Int.reduceNeg, Int.reduceToNat, p1, p2, p3, p4, p5, p6, p7, p8, p9, p10]
  replace p10 := Decidable.not_not.1 p10
  by_cases p11 : ¬ r.logs ≤ 10000
  · have hr : ranged r days = false := by unfold ranged; simp only [decide_eq_false_iff_not]; omega
    rw [hr]; simp -implicitDefEqProofs only [Reach.av, a42, ev0, ev1, ev2, ev3, ev4, ev5, ev6, ev7, evx, if_true, if_false, Nat.reduceEqDiff, Nat.reduceAdd, Nat.reduceMul, Nat.reduceSub, ↓reduceIte, reduceCtorEq, Nat.reduceLeDiff, Nat.reduceLT, Int.reduceLE, Int.reduceLT, Int.reduceEq, Int.reduceNeg, Int.reduceToNat, p1, p2, p3, p4, p5, p6, p7, p8, p9, p10, p11]
  replace p11 := Decidable.not_not.1 p11
  by_cases p12 : ¬ 1 ≤ r.ready
  · have hr : ranged r days = false := by unfold ranged; simp only [decide_eq_false_iff_not]; omega
    rw [hr]; simp -implicitDefEqProofs only [Reach.av, a42, ev0, ev1, ev2, ev3, ev4, ev5, ev6, ev7, evx, if_true, if_false, Nat.reduceEqDiff, Nat.reduceAdd, Nat.reduceMul, Nat.reduceSub, ↓reduceIte, reduceCtorEq, Nat.reduceLeDiff, Nat.reduceLT, Int.reduceLE, Int.reduceLT, Int.reduceEq, Int.reduceNeg, Int.reduceToNat, p1, p2, p3, p4, p5, p6, p7, p8, p9, p10, p11, p12]
  replace p12 := Decidable.not_not.1 p12
  by_cases p13 : ¬ r.ready ≤ days
  · have hr : ranged r days = false := by unfold ranged; simp only [decide_eq_false_iff_not]; omega
    rw [hr]; simp -implicitDefEqProofs only [Reach.av, a42, ev0, ev1, ev2, ev3, ev4, ev5, ev6, ev7, evx, if_true, if_false, Nat.reduceEqDiff, Nat.reduceAdd, Nat.reduceMul, Nat.reduceSub, ↓reduceIte, reduceCtorEq, Nat.reduceLeDiff, Nat.reduceLT, Int.reduceLE, Int.reduceLT, Int.reduceEq, Int.reduceNeg, Int.reduceToNat, p1, p2, p3, p4, p5, p6, p7, p8, p9, p10, p11, p12, p13]
  replace p13 := Decidable.not_not.1 p13
  have hr : ranged r days = true := by unfold ranged; simp only [decide_eq_true_eq]; omega
  rw [hr]; simp -implicitDefEqProofs only [Reach.av, a42, ev0, ev1, ev2, ev3, ev4, ev5, ev6, ev7, evx, if_true, if_false, Nat.reduceEqDiff, Nat.reduceAdd, Nat.reduceMul, Nat.reduceSub, ↓reduceIte, reduceCtorEq, Nat.reduceLeDiff, Nat.reduceLT, Int.reduceLE, Int.reduceLT, Int.reduceEq, Int.reduceNeg, Int.reduceToNat, p1, p2, p3, p4, p5, p6, p7, p8, p9, p10, p11, p12, p13]
end
end Go.AM
/- The reference's check of a river, and what stands on it: valid rivers. -/
namespace Go.AM
open Go
noncomputable section
variable {tm tm' : T AV} {σ σ' : AS} {h h' : T AObj} {n n' fl : Nat} {v : AV}

/-- A river in memory. -/
def RivAt (h : T AObj) (v : AV) (R : River) : Prop := ∃ sl, v = .agg [.int .i64 R.days, sl] ∧ SlV h 8 (some 8) sl (R.rs.map Reach.av)
def downOK (N : Nat) (i : Nat) (r : Reach) : Prop := r.down = -1 ∨ ((i : Int) < r.down ∧ r.down < N)
structure Valid (R : River) : Prop where
  d1 : 1 ≤ R.days
  d2 : R.days ≤ 40
  l1 : 1 ≤ R.rs.length
  l2 : R.rs.length ≤ 8
  down : ∀ i r, R.rs[i]? = some r → downOK R.rs.length i r
  rg : ∀ r ∈ R.rs, ranged r R.days = true

theorem great_call {R : River} (hr : RivAt h v R) : (lim ft (oraOf 10 true)).call (.fn 24 [] []) [v] ⟨h, n, fl⟩ = some (.bool (decide (15 < (R.rs.length : Int))), ⟨h, n, fl⟩) := by
  obtain ⟨sl, rfl, hs⟩ := hr
  obtain ⟨a, c, e, ck, rfl⟩ := hs.shape (List.length_map _)
  refine pure_call rfl (by rfl) rfl rfl rfl ?_
  simp -implicitDefEqProofs only [a24, ev0, ev1, ev2, ev3, ev4, ev5, ev6, ev7, evx, if_true, if_false, Nat.reduceEqDiff, Nat.reduceAdd, Nat.reduceMul, Nat.reduceSub, ↓reduceIte, reduceCtorEq, Nat.reduceLeDiff, Nat.reduceLT, Int.reduceLE, Int.reduceLT, Int.reduceEq, Int.reduceNeg, Int.reduceToNat]

theorem chk_L0 {R : River} {sl : AV} (hs : SlV h 8 (some 8) sl (R.rs.map Reach.av)) (hf : Fresh h n) (hlen : R.rs.length < 1000000) (h1 : tm.get 1 = some (.ptr (some (n, 0)))) (h3 : tm.get 3 = some (.int .i64 0)) :
    Done ((lim ft (oraOf 10 true)).exec (.loop a25_L0) tm ⟨h.put n (some (.cells [.int .i64 R.days, sl] false)), n + 1, n⟩) fun x tm' σ' => σ' = ⟨h.put n (some (.cells [.int .i64 R.days, sl] false)), n + 1, n⟩ ∧ tm'.get 1 = some (.ptr (some (n, 0))) ∧
      ((x = .ret ∧ tm'.get 2 = some (.int .i64 2) ∧ ¬ ∀ i r, R.rs[i]? = some r → downOK R.rs.length i r) ∨ (x = .exit 0 ∧ ∀ i r, R.rs[i]? = some r → downOK R.rs.length i r)) := by
  refine loop_up (fun i tm σ => σ = ⟨h.put n (some (.cells [.int .i64 R.days, sl] false)), n + 1, n⟩ ∧ tm.get 1 = some (.ptr (some (n, 0))) ∧ tm.get 3 = some (.int .i64 (i : Int)) ∧ ∀ j r, j < i → R.rs[j]? = some r → downOK R.rs.length j r) _ R.rs.length ?_ ?_
    R.rs.length 0 tm _ (by simp) ⟨rfl, h1, h3, fun j r hj => by omega⟩
  · intro i tm σ hi ⟨hσ, h1, h3, hok⟩ S hI hQ
    subst hσ
    have hx : (R.rs.map Reach.av)[i]? = some (Reach.av R.rs[i]) := by rw [List.getElem?_map, List.getElem?_eq_getElem hi]; rfl
    obtain ⟨b, o, c, e, ck, rfl, hb, hk, h1c⟩ := hs.many hf hx (List.length_map _)
    have hd := h1c 0 _ rfl
    rw [Nat.add_zero] at hd
    have hbn := ne_new hb
    have hlt : ((i : Int) < (R.rs.length : Int)) := by omega
    have hlt2 : i < R.rs.length := hi
    have hw : wrapF .i64 ((i : Int) + 1) = ((i + 1 : Nat) : Int) := by rw [wrap64 (by omega) (by omega)]; omega
    have next : downOK R.rs.length i R.rs[i] → ∀ j r, j < i + 1 → R.rs[j]? = some r → downOK R.rs.length j r := fun hh j r hj hr => by
      by_cases e : j = i
      · subst e; rw [List.getElem?_eq_getElem hi] at hr; cases hr; exact hh
      · exact hok j r (by omega) hr
    by_cases q1 : R.rs[i].down = -1
    · simp -implicitDefEqProofs only [a25_L0, ev0, ev1, ev2, ev3, ev4, ev5, ev6, ev7, evx, if_true, if_false, Nat.reduceEqDiff, Nat.reduceAdd, Nat.reduceMul, Nat.reduceSub, ↓reduceIte, reduceCtorEq, Nat.reduceLeDiff, Nat.reduceLT, Int.reduceLE, Int.reduceLT, Int.reduceEq, Int.reduceNeg, Int.reduceToNat, h1, h3, hlt, hlt2, hbn, hd, q1, hw]
      refine hI _ _ ⟨rfl, ?_, ?_, next (.inl q1)⟩
      · simp -implicitDefEqProofs only [ev0, ev1, ev2, ev3, ev4, ev5, ev6, ev7, evx, if_true, if_false, Nat.reduceEqDiff, Nat.reduceAdd, Nat.reduceMul, Nat.reduceSub, ↓reduceIte, reduceCtorEq, Nat.reduceLeDiff, Nat.reduceLT, Int.reduceLE, Int.reduceLT, Int.reduceEq, Int.reduceNeg, Int.reduceToNat, h1]
      · simp -implicitDefEqProofs only [ev0, ev1, ev2, ev3, ev4, ev5, ev6, ev7, evx, if_true, if_false, Nat.reduceEqDiff, Nat.reduceAdd, Nat.reduceMul, Nat.reduceSub, ↓reduceIte, reduceCtorEq, Nat.reduceLeDiff, Nat.reduceLT, Int.reduceLE, Int.reduceLT, Int.reduceEq, Int.reduceNeg, Int.reduceToNat]
    · by_cases q2 : R.rs[i].down ≤ (i : Int)
      · simp -implicitDefEqProofs only [a25_L0, ev0, ev1, ev2, ev3, ev4, ev5, ev6, ev7, evx, if_true, if_false, Nat.reduceEqDiff, Nat.reduceAdd, Nat.reduceMul, Nat.reduceSub, ↓reduceIte, reduceCtorEq, Nat.reduceLeDiff, Nat.reduceLT, Int.reduceLE, Int.reduceLT, Int.reduceEq, Int.reduceNeg, Int.reduceToNat, h1, h3, hlt, hlt2, hbn, hd, q1, q2]
        refine hQ _ _ _ (by simp) ⟨rfl, by simp -implicitDefEqProofs only [ev0, ev1, ev2, ev3, ev4, ev5, ev6, ev7, evx, if_true, if_false, Nat.reduceEqDiff, Nat.reduceAdd, Nat.reduceMul, Nat.reduceSub, ↓reduceIte, reduceCtorEq, Nat.reduceLeDiff, Nat.reduceLT, Int.reduceLE, Int.reduceLT, Int.reduceEq, Int.reduceNeg, Int.reduceToNat, h1], .inl ⟨rfl, by simp -implicitDefEqProofs only [ev0, ev1, ev2, ev3, ev4, ev5, ev6, ev7, evx, if_true, if_false, Nat.reduceEqDiff, Nat.reduceAdd, Nat.reduceMul, Nat.reduceSub, ↓reduceIte, reduceCtorEq, Nat.reduceLeDiff, Nat.reduceLT, Int.reduceLE, Int.reduceLT, Int.reduceEq, Int.reduceNeg, Int.reduceToNat], fun hall => ?_⟩⟩
        rcases hall i _ (List.getElem?_eq_getElem hi) with e | ⟨e, _⟩
        · exact q1 e
        · omega
      · by_cases q3 : (R.rs.length : Int) ≤ R.rs[i].down
        · simp -implicitDefEqProofs only [a25_L0, ev0, ev1, ev2, ev3, ev4, ev5, ev6, ev7, evx, if_true, if_false, Nat.reduceEqDiff, Nat.reduceAdd, Nat.reduceMul, Nat.reduceSub, ↓reduceIte, reduceCtorEq, Nat.reduceLeDiff, Nat.reduceLT, Int.reduceLE, Int.reduceLT, Int.reduceEq, Int.reduceNeg, Int.reduceToNat, h1, h3, hlt, hlt2, hbn, hd, q1, q2, q3]
          refine hQ _ _ _ (by simp) ⟨rfl, by simp -implicitDefEqProofs only [ev0, ev1, ev2, ev3, ev4, ev5, ev6, ev7, evx, if_true, if_false, Nat.reduceEqDiff, Nat.reduceAdd, Nat.reduceMul, Nat.reduceSub, ↓reduceIte, reduceCtorEq, Nat.reduceLeDiff, Nat.reduceLT, Int.reduceLE, Int.reduceLT, Int.reduceEq, Int.reduceNeg, Int.reduceToNat, h1], .inl ⟨rfl, by simp -implicitDefEqProofs only [ev0, ev1, ev2, ev3, ev4, ev5, ev6, ev7, evx, if_true, if_false, Nat.reduceEqDiff, Nat.reduceAdd, Nat.reduceMul, Nat.reduceSub, ↓reduceIte, reduceCtorEq, Nat.reduceLeDiff, Nat.reduceLT, Int.reduceLE, Int.reduceLT, Int.reduceEq, Int.reduceNeg, Int.reduceToNat], fun hall => ?_⟩⟩
          rcases hall i _ (List.getElem?_eq_getElem hi) with e | ⟨_, e⟩
          · exact q1 e
          · omega
        · simp -implicitDefEqProofs only [a25_L0, ev0, ev1, ev2, ev3, ev4, ev5, ev6, ev7, evx, if_true, if_false, Nat.reduceEqDiff, Nat.reduceAdd, Nat.reduceMul, Nat.reduceSub, ↓reduceIte, reduceCtorEq, Nat.reduceLeDiff, Nat.reduceLT, Int.reduceLE, Int.reduceLT, Int.reduceEq, Int.reduceNeg, Int.reduceToNat, h1, h3, hlt, hlt2, hbn, hd, q1, q2, q3, hw]
          refine hI _ _ ⟨rfl, ?_, ?_, next (.inr ⟨by omega, by omega⟩)⟩
          · simp -implicitDefEqProofs only [ev0, ev1, ev2, ev3, ev4, ev5, ev6, ev7, evx, if_true, if_false, Nat.reduceEqDiff, Nat.reduceAdd, Nat.reduceMul, Nat.reduceSub, ↓reduceIte, reduceCtorEq, Nat.reduceLeDiff, Nat.reduceLT, Int.reduceLE, Int.reduceLT, Int.reduceEq, Int.reduceNeg, Int.reduceToNat, h1]
          · simp -implicitDefEqProofs only [ev0, ev1, ev2, ev3, ev4, ev5, ev6, ev7, evx, if_true, if_false, Nat.reduceEqDiff, Nat.reduceAdd, Nat.reduceMul, Nat.reduceSub, ↓reduceIte, reduceCtorEq, Nat.reduceLeDiff, Nat.reduceLT, Int.reduceLE, Int.reduceLT, Int.reduceEq, Int.reduceNeg, Int.reduceToNat]
  · intro tm σ ⟨hσ, h1, h3, hok⟩ S hQ
    subst hσ
    obtain ⟨a, c, e, ck, rfl⟩ := hs.shape (List.length_map _)
    have hlt : ¬ ((R.rs.length : Int) < (R.rs.length : Int)) := by omega
    simp -implicitDefEqProofs only [a25_L0, ev0, ev1, ev2, ev3, ev4, ev5, ev6, ev7, evx, if_true, if_false, Nat.reduceEqDiff, Nat.reduceAdd, Nat.reduceMul, Nat.reduceSub, ↓reduceIte, reduceCtorEq, Nat.reduceLeDiff, Nat.reduceLT, Int.reduceLE, Int.reduceLT, Int.reduceEq, Int.reduceNeg, Int.reduceToNat, h1, h3, hlt]
    exact hQ _ _ _ (by simp) ⟨rfl, by simp -implicitDefEqProofs only [ev0, ev1, ev2, ev3, ev4, ev5, ev6, ev7, evx, if_true, if_false, Nat.reduceEqDiff, Nat.reduceAdd, Nat.reduceMul, Nat.reduceSub, ↓reduceIte, reduceCtorEq, Nat.reduceLeDiff, Nat.reduceLT, Int.reduceLE, Int.reduceLT, Int.reduceEq, Int.reduceNeg, Int.reduceToNat, h1], .inr ⟨rfl, fun i r hr => hok i r ((List.getElem?_eq_some_iff.1 hr).1) hr⟩⟩
theorem chk_L1 {R : River} {sl : AV} (hs : SlV h 8 (some 8) sl (R.rs.map Reach.av)) (hf : Fresh h n) (hlen : R.rs.length < 1000000) (h1 : tm.get 1 = some (.ptr (some (n, 0)))) (h5 : tm.get 5 = some (.int .i64 0)) :
    Done ((lim ft (oraOf 10 true)).exec (.loop a25_L1) tm ⟨h.put n (some (.cells [.int .i64 R.days, sl] false)), n + 1, n⟩) fun x tm' _ =>
      ((x = .ret ∧ tm'.get 2 = some (.int .i64 3) ∧ ¬ ∀ r ∈ R.rs, ranged r R.days = true) ∨ (x = .exit 2 ∧ ∀ r ∈ R.rs, ranged r R.days = true)) := by
  refine loop_up (fun i tm σ => σ = ⟨h.put n (some (.cells [.int .i64 R.days, sl] false)), n + 1, n⟩ ∧ tm.get 1 = some (.ptr (some (n, 0))) ∧ tm.get 5 = some (.int .i64 (i : Int)) ∧ ∀ j r, j < i → R.rs[j]? = some r → ranged r R.days = true) _ R.rs.length ?_ ?_
    R.rs.length 0 tm _ (by simp) ⟨rfl, h1, h5, fun j r hj => by omega⟩
  · intro i tm σ hi ⟨hσ, h1, h5, hok⟩ S hI hQ
    subst hσ
    have hx : (R.rs.map Reach.av)[i]? = some (Reach.av R.rs[i]) := by rw [List.getElem?_map, List.getElem?_eq_getElem hi]; rfl
    obtain ⟨b, o, c, e, ck, rfl, hb, hk, _⟩ := hs.many hf hx (List.length_map _)
    have hbn := ne_new hb
    have hlt : ((i : Int) < (R.rs.length : Int)) := by omega
    have hlt2 : i < R.rs.length := hi
    have hw : wrapF .i64 ((i : Int) + 1) = ((i + 1 : Nat) : Int) := by rw [wrap64 (by omega) (by omega)]; omega
    have hc := ranged_call (h := h.put n (some (.cells [.int .i64 R.days, .slc (some (b, o)) R.rs.length c e ck] false))) (n := n + 1) (fl := n) (r := R.rs[i]) (days := R.days)
    rw [Reach.av] at hc
    cases q : ranged R.rs[i] R.days with
    | true =>
      rw [q] at hc
      simp -implicitDefEqProofs only [a25_L1, ev0, ev1, ev2, ev3, ev4, ev5, ev6, ev7, evx, if_true, if_false, Nat.reduceEqDiff, Nat.reduceAdd, Nat.reduceMul, Nat.reduceSub, ↓reduceIte, reduceCtorEq, Nat.reduceLeDiff, Nat.reduceLT, Int.reduceLE, Int.reduceLT, Int.reduceEq, Int.reduceNeg, Int.reduceToNat, h1, h5, hlt, hlt2, hbn, hk, hw] at hc ⊢
      simp -implicitDefEqProofs only [hc, ev0, ev1, ev2, ev3, ev4, ev5, ev6, ev7, evx, if_true, if_false, Nat.reduceEqDiff, Nat.reduceAdd, Nat.reduceMul, Nat.reduceSub, ↓reduceIte, reduceCtorEq, Nat.reduceLeDiff, Nat.reduceLT, Int.reduceLE, Int.reduceLT, Int.reduceEq, Int.reduceNeg, Int.reduceToNat, h1, h5, hw]
      refine hI _ _ ⟨rfl, ?_, ?_, fun j r hj hr => ?_⟩
      · simp -implicitDefEqProofs only [ev0, ev1, ev2, ev3, ev4, ev5, ev6, ev7, evx, if_true, if_false, Nat.reduceEqDiff, Nat.reduceAdd, Nat.reduceMul, Nat.reduceSub, ↓reduceIte, reduceCtorEq, Nat.reduceLeDiff, Nat.reduceLT, Int.reduceLE, Int.reduceLT, Int.reduceEq, Int.reduceNeg, Int.reduceToNat, h1]
      · simp -implicitDefEqProofs only [ev0, ev1, ev2, ev3, ev4, ev5, ev6, ev7, evx, if_true, if_false, Nat.reduceEqDiff, Nat.reduceAdd, Nat.reduceMul, Nat.reduceSub, ↓reduceIte, reduceCtorEq, Nat.reduceLeDiff, Nat.reduceLT, Int.reduceLE, Int.reduceLT, Int.reduceEq, Int.reduceNeg, Int.reduceToNat]
      · by_cases e : j = i
        · subst e; rw [List.getElem?_eq_getElem hi] at hr; cases hr; exact q
        · exact hok j r (by omega) hr
    | false =>
      rw [q] at hc
      simp -implicitDefEqProofs only [a25_L1, ev0, ev1, ev2, ev3, ev4, ev5, ev6, ev7, evx, if_true, if_false, Nat.reduceEqDiff, Nat.reduceAdd, Nat.reduceMul, Nat.reduceSub, ↓reduceIte, reduceCtorEq, Nat.reduceLeDiff, Nat.reduceLT, Int.reduceLE, Int.reduceLT, Int.reduceEq, Int.reduceNeg, Int.reduceToNat, h1, h5, hlt, hlt2, hbn, hk, hw] at hc ⊢
      simp -implicitDefEqProofs only [hc, ev0, ev1, ev2, ev3, ev4, ev5, ev6, ev7, evx, if_true, if_false, Nat.reduceEqDiff, Nat.reduceAdd, Nat.reduceMul, Nat.reduceSub, ↓reduceIte, reduceCtorEq, Nat.reduceLeDiff, Nat.reduceLT, Int.reduceLE, Int.reduceLT, Int.reduceEq, Int.reduceNeg, Int.reduceToNat, h1, h5, hw]
      refine hQ _ _ _ (by simp) (.inl ⟨rfl, by simp -implicitDefEqProofs only [ev0, ev1, ev2, ev3, ev4, ev5, ev6, ev7, evx, if_true, if_false, Nat.reduceEqDiff, Nat.reduceAdd, Nat.reduceMul, Nat.reduceSub, ↓reduceIte, reduceCtorEq, Nat.reduceLeDiff, Nat.reduceLT, Int.reduceLE, Int.reduceLT, Int.reduceEq, Int.reduceNeg, Int.reduceToNat], fun hall => ?_⟩)
      rw [hall _ (List.getElem_mem hi)] at q
      cases q
  · intro tm σ ⟨hσ, h1, h5, hok⟩ S hQ
    subst hσ
    obtain ⟨a, c, e, ck, rfl⟩ := hs.shape (List.length_map _)
    have hlt : ¬ ((R.rs.length : Int) < (R.rs.length : Int)) := by omega
    simp -implicitDefEqProofs only [a25_L1, ev0, ev1, ev2, ev3, ev4, ev5, ev6, ev7, evx, if_true, if_false, Nat.reduceEqDiff, Nat.reduceAdd, Nat.reduceMul, Nat.reduceSub, ↓reduceIte, reduceCtorEq, Nat.reduceLeDiff, Nat.reduceLT, Int.reduceLE, Int.reduceLT, Int.reduceEq, Int.reduceNeg, Int.reduceToNat, h1, h5, hlt]
    refine hQ _ _ _ (by simp) (.inr ⟨rfl, fun r hr => ?_⟩)
    obtain ⟨j, hj⟩ := List.getElem?_of_mem hr
    exact hok j r ((List.getElem?_eq_some_iff.1 hj).1) hj
theorem check_call {R : River} (hr : RivAt h v R) (hf : Fresh h n) (hlen : R.rs.length < 1000000) :
    ∃ e : Int, (lim ft (oraOf 10 true)).call (.fn 25 [] []) [v] ⟨h, n, fl⟩ = some (.int .i64 e, ⟨h, n, fl⟩) ∧ (e = 0 ↔ Valid R) := by
  obtain ⟨sl, rfl, hs⟩ := hr
  obtain ⟨a, c, e, ck, rfl⟩ := hs.shape (List.length_map _)
  by_cases p1 : R.days < 1
  · exact ⟨3, pure_call rfl (by rfl) rfl rfl rfl (by simp -implicitDefEqProofs only [a25, ev0, ev1, ev2, ev3, ev4, ev5, ev6, ev7, evx, if_true, if_false, Nat.reduceEqDiff, Nat.reduceAdd, Nat.reduceMul, Nat.reduceSub, ↓reduceIte, reduceCtorEq, Nat.reduceLeDiff, Nat.reduceLT, Int.reduceLE, Int.reduceLT, Int.reduceEq, Int.reduceNeg, Int.reduceToNat, p1]), by simp; intro hv; have := hv.d1; omega⟩
  by_cases p2 : 40 < R.days
  · exact ⟨3, pure_call rfl (by rfl) rfl rfl rfl (by simp -implicitDefEqProofs only [a25, ev0, ev1, ev2, ev3, ev4, ev5, ev6, ev7, evx, if_true, if_false, Nat.reduceEqDiff, Nat.reduceAdd, Nat.reduceMul, Nat.reduceSub, ↓reduceIte, reduceCtorEq, Nat.reduceLeDiff, Nat.reduceLT, Int.reduceLE, Int.reduceLT, Int.reduceEq, Int.reduceNeg, Int.reduceToNat, p1, p2]), by simp; intro hv; have := hv.d2; omega⟩
  by_cases p3 : (R.rs.length : Int) < 1
  · exact ⟨6, pure_call rfl (by rfl) rfl rfl rfl (by simp -implicitDefEqProofs only [a25, ev0, ev1, ev2, ev3, ev4, ev5, ev6, ev7, evx, if_true, if_false, Nat.reduceEqDiff, Nat.reduceAdd, Nat.reduceMul, Nat.reduceSub, ↓reduceIte, reduceCtorEq, Nat.reduceLeDiff, Nat.reduceLT, Int.reduceLE, Int.reduceLT, Int.reduceEq, Int.reduceNeg, Int.reduceToNat, p1, p2, p3]), by simp; intro hv; have := hv.l1; omega⟩
  by_cases p4 : 8 < (R.rs.length : Int)
  · exact ⟨6, pure_call rfl (by rfl) rfl rfl rfl (by simp -implicitDefEqProofs only [a25, ev0, ev1, ev2, ev3, ev4, ev5, ev6, ev7, evx, if_true, if_false, Nat.reduceEqDiff, Nat.reduceAdd, Nat.reduceMul, Nat.reduceSub, ↓reduceIte, reduceCtorEq, Nat.reduceLeDiff, Nat.reduceLT, Int.reduceLE, Int.reduceLT, Int.reduceEq, Int.reduceNeg, Int.reduceToNat, p1, p2, p3, p4]), by simp; intro hv; have := hv.l2; omega⟩
  have step0 : ∃ er : Int, FnRes a25.results (.int .i64 er) ((lim ft (oraOf 10 true)).exec a25.body (setArgs ([] ++ [.agg [.int .i64 R.days, .slc a R.rs.length c e ck]] ++ []) 0 .e) ⟨h, n, n⟩) ∧ (er = 0 ↔ Valid R) := by
    simp -implicitDefEqProofs only [a25, ev0, ev1, ev2, ev3, ev4, ev5, ev6, ev7, evx, if_true, if_false, Nat.reduceEqDiff, Nat.reduceAdd, Nat.reduceMul, Nat.reduceSub, ↓reduceIte, reduceCtorEq, Nat.reduceLeDiff, Nat.reduceLT, Int.reduceLE, Int.reduceLT, Int.reduceEq, Int.reduceNeg, Int.reduceToNat, p1, p2, p3, p4]
    generalize hT : T.put _ 3 _ = T0
    have g1 : T0.get 1 = some (.ptr (some (n, 0))) := by subst hT; simp -implicitDefEqProofs only [ev0, ev1, ev2, ev3, ev4, ev5, ev6, ev7, evx, if_true, if_false, Nat.reduceEqDiff, Nat.reduceAdd, Nat.reduceMul, Nat.reduceSub, ↓reduceIte, reduceCtorEq, Nat.reduceLeDiff, Nat.reduceLT, Int.reduceLE, Int.reduceLT, Int.reduceEq, Int.reduceNeg, Int.reduceToNat]
    have g3 : T0.get 3 = some (.int .i64 0) := by subst hT; simp -implicitDefEqProofs only [ev0, ev1, ev2, ev3, ev4, ev5, ev6, ev7, evx, if_true, if_false, Nat.reduceEqDiff, Nat.reduceAdd, Nat.reduceMul, Nat.reduceSub, ↓reduceIte, reduceCtorEq, Nat.reduceLeDiff, Nat.reduceLT, Int.reduceLE, Int.reduceLT, Int.reduceEq, Int.reduceNeg, Int.reduceToNat]
    have hs' := hs
    obtain ⟨x, tm', σ', e1, rfl, e2, e3⟩ := chk_L0 hs' hf hlen g1 g3
    rcases e3 with ⟨rfl, e4, e5⟩ | ⟨rfl, e4⟩
    · refine ⟨2, ?_, by simp; intro hv; exact e5 hv.down⟩
      simp -implicitDefEqProofs only [e1, ev0, ev1, ev2, ev3, ev4, ev5, ev6, ev7, evx, if_true, if_false, Nat.reduceEqDiff, Nat.reduceAdd, Nat.reduceMul, Nat.reduceSub, ↓reduceIte, reduceCtorEq, Nat.reduceLeDiff, Nat.reduceLT, Int.reduceLE, Int.reduceLT, Int.reduceEq, Int.reduceNeg, Int.reduceToNat, e4]
    · obtain ⟨x, tm2, ⟨h2, n2, fl2⟩, k1, k3⟩ := chk_L1 (tm := tm'.put 5 (some (.int .i64 0))) hs' hf hlen (by simp -implicitDefEqProofs only [ev0, ev1, ev2, ev3, ev4, ev5, ev6, ev7, evx, if_true, if_false, Nat.reduceEqDiff, Nat.reduceAdd, Nat.reduceMul, Nat.reduceSub, ↓reduceIte, reduceCtorEq, Nat.reduceLeDiff, Nat.reduceLT, Int.reduceLE, Int.reduceLT, Int.reduceEq, Int.reduceNeg, Int.reduceToNat, e2]) (by simp -implicitDefEqProofs only [ev0, ev1, ev2, ev3, ev4, ev5, ev6, ev7, evx, if_true, if_false, Nat.reduceEqDiff, Nat.reduceAdd, Nat.reduceMul, Nat.reduceSub, ↓reduceIte, reduceCtorEq, Nat.reduceLeDiff, Nat.reduceLT, Int.reduceLE, Int.reduceLT, Int.reduceEq, Int.reduceNeg, Int.reduceToNat])
      rcases k3 with ⟨rfl, k4, k5⟩ | ⟨rfl, k4⟩
      · refine ⟨3, ?_, by simp; intro hv; exact k5 hv.rg⟩
        simp -implicitDefEqProofs only [e1, k1, ev0, ev1, ev2, ev3, ev4, ev5, ev6, ev7, evx, if_true, if_false, Nat.reduceEqDiff, Nat.reduceAdd, Nat.reduceMul, Nat.reduceSub, ↓reduceIte, reduceCtorEq, Nat.reduceLeDiff, Nat.reduceLT, Int.reduceLE, Int.reduceLT, Int.reduceEq, Int.reduceNeg, Int.reduceToNat, k4]
      · refine ⟨0, ?_, by simp; exact ⟨by omega, by omega, by omega, by omega, e4, k4⟩⟩
        simp -implicitDefEqProofs only [e1, k1, ev0, ev1, ev2, ev3, ev4, ev5, ev6, ev7, evx, if_true, if_false, Nat.reduceEqDiff, Nat.reduceAdd, Nat.reduceMul, Nat.reduceSub, ↓reduceIte, reduceCtorEq, Nat.reduceLeDiff, Nat.reduceLT, Int.reduceLE, Int.reduceLT, Int.reduceEq, Int.reduceNeg, Int.reduceToNat]
  obtain ⟨e, s1, s2⟩ := step0
  exact ⟨e, pure_call rfl (by rfl) rfl rfl rfl s1, s2⟩
open Classical in
theorem fine_call {R : River} (hr : RivAt h v R) (hf : Fresh h n) : (lim ft (oraOf 10 true)).call (.fn 9 [] []) [v] ⟨h, n, fl⟩ = some (.bool (decide (Valid R)), ⟨h, n, fl⟩) := by
  obtain ⟨sl, rfl, hs⟩ := id hr
  obtain ⟨a, c, e, ck, rfl⟩ := hs.shape (List.length_map _)
  have hr' : RivAt (h.put n (some (.cells [.int .i64 R.days, .slc a R.rs.length c e ck] false))) (.agg [.int .i64 R.days, .slc a R.rs.length c e ck]) R := ⟨_, rfl, hs.put hf (Nat.le_refl _)⟩
  have hf' : Fresh (h.put n (some (.cells [.int .i64 R.days, .slc a R.rs.length c e ck] false))) (n + 1) := hf.put (by omega) (by omega)
  have g := great_call (n := n + 1) (fl := n) hr'
  refine pure_call rfl (by rfl) rfl rfl rfl ?_
  by_cases q : 15 < (R.rs.length : Int)
  · have hv : ¬ Valid R := fun hv => by have := hv.l2; omega
    simp -implicitDefEqProofs only [a9, ev0, ev1, ev2, ev3, ev4, ev5, ev6, ev7, evx, if_true, if_false, Nat.reduceEqDiff, Nat.reduceAdd, Nat.reduceMul, Nat.reduceSub, ↓reduceIte, reduceCtorEq, Nat.reduceLeDiff, Nat.reduceLT, Int.reduceLE, Int.reduceLT, Int.reduceEq, Int.reduceNeg, Int.reduceToNat, g, q, hv]
  · obtain ⟨er, k1, k2⟩ := check_call (n := n + 1) (fl := n) hr' hf' (by omega)
    by_cases q2 : er = 0
    · have hv := k2.1 q2
      simp -implicitDefEqProofs only [a9, ev0, ev1, ev2, ev3, ev4, ev5, ev6, ev7, evx, if_true, if_false, Nat.reduceEqDiff, Nat.reduceAdd, Nat.reduceMul, Nat.reduceSub, ↓reduceIte, reduceCtorEq, Nat.reduceLeDiff, Nat.reduceLT, Int.reduceLE, Int.reduceLT, Int.reduceEq, Int.reduceNeg, Int.reduceToNat, g, q, k1, q2, hv]
    · have hv : ¬ Valid R := fun hv => q2 (k2.2 hv)
      simp -implicitDefEqProofs only [a9, ev0, ev1, ev2, ev3, ev4, ev5, ev6, ev7, evx, if_true, if_false, Nat.reduceEqDiff, Nat.reduceAdd, Nat.reduceMul, Nat.reduceSub, ↓reduceIte, reduceCtorEq, Nat.reduceLeDiff, Nat.reduceLT, Int.reduceLE, Int.reduceLT, Int.reduceEq, Int.reduceNeg, Int.reduceToNat, g, q, k1, q2, hv]
theorem wrap_nonneg {k : IntKind} {a : Int} (h1 : Go.AM.lo k ≤ a) (h2 : a ≤ Go.AM.hi k) : wrapF k a = a := by
  have hs : wrapSlow k a = a := by unfold wrapSlow; simp [h1, h2]
  unfold wrapF
  cases a with
  | ofNat m =>
    show (bif Nat.ble m 127 then _ else wrapSlow k (.ofNat m)) = _
    cases Nat.ble m 127
    · exact hs
    · rfl
  | negSucc m => exact hs
/-- Day. -/
theorem day_call {R : River} {k : IntKind} {d : Int} (hr : RivAt h v R) (hv : Valid R) (d0 : 0 ≤ d) (d1 : d ≤ 255) :
    (lim ft (oraOf 10 true)).call (.fn 11 [] []) [v, .int k d] ⟨h, n, fl⟩ = some (.int .i64 (1 + d % R.days), ⟨h, n, fl⟩) := by
  obtain ⟨sl, rfl, hs⟩ := id hr
  obtain ⟨a, c, e, ck, rfl⟩ := hs.shape (List.length_map _)
  have h1 := hv.d1
  have h2 := hv.d2
  have hz : ¬ R.days = 0 := by omega
  have e1 : wrapF .i64 d = d := wrap64 (by omega) (by omega)
  have e2 : d.tmod R.days = d % R.days := Int.tmod_eq_emod_of_nonneg d0
  have b1 := Int.emod_nonneg d hz
  have b2 := Int.emod_lt_of_pos d (show 0 < R.days by omega)
  have e3 : wrapF .i64 (1 + d % R.days) = 1 + d % R.days := wrap64 (by omega) (by omega)
  refine pure_call rfl (by rfl) rfl rfl rfl ?_
  simp -implicitDefEqProofs only [a11, ev0, ev1, ev2, ev3, ev4, ev5, ev6, ev7, evx, if_true, if_false, Nat.reduceEqDiff, Nat.reduceAdd, Nat.reduceMul, Nat.reduceSub, ↓reduceIte, reduceCtorEq, Nat.reduceLeDiff, Nat.reduceLT, Int.reduceLE, Int.reduceLT, Int.reduceEq, Int.reduceNeg, Int.reduceToNat, e1, hz, e2, e3]
end
end Go.AM
/- The program's checks of a valid river let it by. -/
namespace Go.AM
open Go
noncomputable section
variable {tm tm' : T AV} {σ σ' : AS} {h h' : T AObj} {n n' fl : Nat} {v : AV}

theorem inB_t {lo hi x : Int} (a : lo ≤ x) (b : x ≤ hi) : inB lo hi x = true := by simp [inB, a, b]
/-- The test of one reach. -/
theorem odd_call {R : River} {r : Reach} {sl : AV} {b : Nat} (hr : ranged r R.days = true) (hd : R.days ≤ 40) (hb : h.get b = some (.cells [.int .i64 R.days, sl] false)) (hf : Fresh h n) :
    (lim ft (oraOf 10 true)).call (.fn 59 [] [.ptr (some (b, 0))]) [r.av] ⟨h, n, fl⟩ = some (.bool false, ⟨h, n, fl⟩) := by
  simp only [ranged, decide_eq_true_eq] at hr
  obtain ⟨r1, r2, r3, r4, r5, r6, r7, r8, r9, r10, r11, r12, r13⟩ := hr
  have hbn := ne_new (hf b _ hb)
  have hbk := ne_newk (hf b _ hb)
  have nk : ∀ k : Nat, n + k ≠ n ↔ k ≠ 0 := fun k => by omega
  have f1 : Fresh (h.put n (some (.cells [.int .i64 r.down, .int .i64 r.pass, .int .i64 r.takes, .int .i64 r.lo, .int .i64 r.hi, .int .i64 r.every, .int .i64 r.logs, .int .i64 r.ready] false))) (n + 1) := hf.put (by omega) (by omega)
  have c1 := within_1 (lo := 0) (hi := 1000) (a := r.pass) (b := n + 1) (n := n + 2) (c := 1) (e := 2) (ck := .exact) (ro := false) (fl := n) (f1.put (by omega) (by omega))
  have f2 := f1.put (b := n + 1) (o := some (.cells [.int .i64 r.pass] false)) (n' := n + 2) (by omega) (by omega)
  have c2 := within_1 (lo := 0) (hi := 10) (a := r.takes) (b := n + 2) (n := n + 3) (c := 1) (e := 2) (ck := .exact) (ro := false) (fl := n) (f2.put (by omega) (by omega))
  have f3 := f2.put (b := n + 2) (o := some (.cells [.int .i64 r.takes] false)) (n' := n + 3) (by omega) (by omega)
  have c3 := within_1 (lo := 0) (hi := 10000) (a := r.logs) (b := n + 3) (n := n + 4) (c := 1) (e := 2) (ck := .exact) (ro := false) (fl := n) (f3.put (by omega) (by omega))
  have f4 := f3.put (b := n + 3) (o := some (.cells [.int .i64 r.logs] false)) (n' := n + 4) (by omega) (by omega)
  have c4 := within_3 (lo := 1) (hi := R.days) (a1 := r.lo) (a2 := r.hi) (a3 := r.ready) (b := n + 4) (n := n + 5) (c := 3) (e := 2) (ck := .exact) (ro := false) (fl := n) (f4.put (by omega) (by omega))
  have f5 := f4.put (b := n + 4) (o := some (.cells [.int .i64 r.lo, .int .i64 r.hi, .int .i64 r.ready] false)) (n' := n + 5) (by omega) (by omega)
  have c5 := within_1 (lo := 1) (hi := 10) (a := r.every) (b := n + 5) (n := n + 6) (c := 1) (e := 2) (ck := .exact) (ro := false) (fl := n) (f5.put (by omega) (by omega))
  rw [inB_t (by omega) (by omega)] at c1 c2 c3 c5
  rw [inB_t (by omega) (by omega), inB_t (by omega) (by omega), inB_t (by omega) (by omega)] at c4
  have q : ¬ r.hi < r.lo := by omega
  refine pure_call rfl (by rfl) rfl rfl rfl ?_
  simp -implicitDefEqProofs only [Reach.av, a59, ev0, ev1, ev2, ev3, ev4, ev5, ev6, ev7, evx, if_true, if_false, Nat.reduceEqDiff, Nat.reduceAdd, Nat.reduceMul, Nat.reduceSub, ↓reduceIte, reduceCtorEq, Nat.reduceLeDiff, Nat.reduceLT, Int.reduceLE, Int.reduceLT, Int.reduceEq, Int.reduceNeg, Int.reduceToNat, hbn, hbk, hb, rd1_s, c1, c2, c3, c4, c5, q]
theorem chk54_L0 {R : River} {sl : AV} {m b : Nat} (hv : Valid R) (hs : SlV h 8 (some 8) sl (R.rs.map Reach.av)) (hb : h.get b = some (.cells [.int .i64 R.days, sl] false)) (hf : Fresh h m) (hfl : fl ≤ m)
    (h1 : tm.get 1 = some (.ptr (some (b, 0)))) (h20 : tm.get 20 = some sl) (h21 : tm.get 21 = some (.int .i64 R.rs.length)) (h22 : tm.get 22 = some (.int .i64 0)) :
    Done ((lim ft (oraOf 10 true)).exec (.loop a54_L0) tm ⟨h, m, fl⟩) fun x tm' σ' => x = .exit 1 ∧ tm'.get 1 = some (.ptr (some (b, 0))) ∧ ∃ h' m', σ' = ⟨h', m', fl⟩ ∧ m ≤ m' ∧ Fresh h' m' ∧ Agree m h h' := by
  refine loop_up (fun i tm σ => tm.get 1 = some (.ptr (some (b, 0))) ∧ tm.get 20 = some sl ∧ tm.get 21 = some (.int .i64 R.rs.length) ∧ tm.get 22 = some (.int .i64 (i : Int)) ∧ ∃ h' m', σ = ⟨h', m', fl⟩ ∧ m ≤ m' ∧ Fresh h' m' ∧ Agree m h h') _ R.rs.length ?_ ?_
    R.rs.length 0 tm _ (by simp) ⟨h1, h20, h21, h22, h, m, rfl, Nat.le_refl _, hf, Agree.refl⟩
  · intro i tm σ hi ⟨h1, h20, h21, h22, h', m', hσ, hm, hf', ha⟩ S hI hQ
    subst hσ
    have hx : (R.rs.map Reach.av)[i]? = some (Reach.av R.rs[i]) := by rw [List.getElem?_map, List.getElem?_eq_getElem hi]; rfl
    have hl := hv.l2
    obtain ⟨b2, o, c, e, ck, rfl, hb2, hk, _⟩ := (hs.agree hf ha).many hf' hx (List.length_map _)
    have hb' : h'.get b = some (.cells [.int .i64 R.days, .slc (some (b2, o)) R.rs.length c e ck] false) := by rw [ha b (hf b _ hb)]; exact hb
    have hbn := ne_new (hf' b _ hb')
    have hbk := ne_newk (hf' b _ hb')
    have hb2n := ne_new hb2
    have hlt : ((i : Int) < (R.rs.length : Int)) := by omega
    have hlt2 : i < R.rs.length := hi
    have hw : wrapF .i64 ((i : Int) + 1) = (i : Int) + 1 := wrap64 (by omega) (by omega)
    have hw2 : wrapF .i64 ((R.rs.length : Int) - 1) = (R.rs.length : Int) - 1 := wrap64 (by omega) (by omega)
    have hfm : fl ≤ m' := by omega
    have hd := hv.down i _ (List.getElem?_eq_getElem hi)
    have f1 : Fresh (h'.put m' (some (.cells [.int .i64 R.rs[i].down, .int .i64 R.rs[i].pass, .int .i64 R.rs[i].takes, .int .i64 R.rs[i].lo, .int .i64 R.rs[i].hi, .int .i64 R.rs[i].every, .int .i64 R.rs[i].logs, .int .i64 R.rs[i].ready] false))) (m' + 1) := hf'.put (by omega) (by omega)
    have c1 := within_1 (lo := (i : Int) + 1) (hi := (R.rs.length : Int) - 1) (a := R.rs[i].down) (b := m' + 1) (n := m' + 2) (c := 1) (e := 2) (ck := .exact) (ro := false) (fl := fl) (f1.put (by omega) (by omega))
    by_cases q : R.rs[i].down = -1
    · simp -implicitDefEqProofs only [a54_L0, ev0, ev1, ev2, ev3, ev4, ev5, ev6, ev7, evx, if_true, if_false, Nat.reduceEqDiff, Nat.reduceAdd, Nat.reduceMul, Nat.reduceSub, ↓reduceIte, reduceCtorEq, Nat.reduceLeDiff, Nat.reduceLT, Int.reduceLE, Int.reduceLT, Int.reduceEq, Int.reduceNeg, Int.reduceToNat, h1, h20, h21, h22, hlt, hlt2, hbn, hbk, hb2n, hk, q, hw, hfm]
      refine hI _ _ ⟨by simp -implicitDefEqProofs only [ev0, ev1, ev2, ev3, ev4, ev5, ev6, ev7, evx, if_true, if_false, Nat.reduceEqDiff, Nat.reduceAdd, Nat.reduceMul, Nat.reduceSub, ↓reduceIte, reduceCtorEq, Nat.reduceLeDiff, Nat.reduceLT, Int.reduceLE, Int.reduceLT, Int.reduceEq, Int.reduceNeg, Int.reduceToNat, h1], by simp -implicitDefEqProofs only [ev0, ev1, ev2, ev3, ev4, ev5, ev6, ev7, evx, if_true, if_false, Nat.reduceEqDiff, Nat.reduceAdd, Nat.reduceMul, Nat.reduceSub, ↓reduceIte, reduceCtorEq, Nat.reduceLeDiff, Nat.reduceLT, Int.reduceLE, Int.reduceLT, Int.reduceEq, Int.reduceNeg, Int.reduceToNat, h20], by simp -implicitDefEqProofs only [ev0, ev1, ev2, ev3, ev4, ev5, ev6, ev7, evx, if_true, if_false, Nat.reduceEqDiff, Nat.reduceAdd, Nat.reduceMul, Nat.reduceSub, ↓reduceIte, reduceCtorEq, Nat.reduceLeDiff, Nat.reduceLT, Int.reduceLE, Int.reduceLT, Int.reduceEq, Int.reduceNeg, Int.reduceToNat, h21], by simp -implicitDefEqProofs only [ev0, ev1, ev2, ev3, ev4, ev5, ev6, ev7, evx, if_true, if_false, Nat.reduceEqDiff, Nat.reduceAdd, Nat.reduceMul, Nat.reduceSub, ↓reduceIte, reduceCtorEq, Nat.reduceLeDiff, Nat.reduceLT, Int.reduceLE, Int.reduceLT, Int.reduceEq, Int.reduceNeg, Int.reduceToNat]; rfl, _, _, rfl, by omega, hf'.put (by omega) (by omega), ha.put hm⟩
    · rw [inB_t (by rcases hd with hd | hd <;> omega) (by rcases hd with hd | hd <;> omega)] at c1
      simp -implicitDefEqProofs only [a54_L0, ev0, ev1, ev2, ev3, ev4, ev5, ev6, ev7, evx, if_true, if_false, Nat.reduceEqDiff, Nat.reduceAdd, Nat.reduceMul, Nat.reduceSub, ↓reduceIte, reduceCtorEq, Nat.reduceLeDiff, Nat.reduceLT, Int.reduceLE, Int.reduceLT, Int.reduceEq, Int.reduceNeg, Int.reduceToNat, h1, h20, h21, h22, hlt, hlt2, hbn, hbk, hb2n, hb', hk, q, hw, hw2, hfm, c1]
      refine hI _ _ ⟨by simp -implicitDefEqProofs only [ev0, ev1, ev2, ev3, ev4, ev5, ev6, ev7, evx, if_true, if_false, Nat.reduceEqDiff, Nat.reduceAdd, Nat.reduceMul, Nat.reduceSub, ↓reduceIte, reduceCtorEq, Nat.reduceLeDiff, Nat.reduceLT, Int.reduceLE, Int.reduceLT, Int.reduceEq, Int.reduceNeg, Int.reduceToNat, h1], by simp -implicitDefEqProofs only [ev0, ev1, ev2, ev3, ev4, ev5, ev6, ev7, evx, if_true, if_false, Nat.reduceEqDiff, Nat.reduceAdd, Nat.reduceMul, Nat.reduceSub, ↓reduceIte, reduceCtorEq, Nat.reduceLeDiff, Nat.reduceLT, Int.reduceLE, Int.reduceLT, Int.reduceEq, Int.reduceNeg, Int.reduceToNat, h20], by simp -implicitDefEqProofs only [ev0, ev1, ev2, ev3, ev4, ev5, ev6, ev7, evx, if_true, if_false, Nat.reduceEqDiff, Nat.reduceAdd, Nat.reduceMul, Nat.reduceSub, ↓reduceIte, reduceCtorEq, Nat.reduceLeDiff, Nat.reduceLT, Int.reduceLE, Int.reduceLT, Int.reduceEq, Int.reduceNeg, Int.reduceToNat, h21], by simp -implicitDefEqProofs only [ev0, ev1, ev2, ev3, ev4, ev5, ev6, ev7, evx, if_true, if_false, Nat.reduceEqDiff, Nat.reduceAdd, Nat.reduceMul, Nat.reduceSub, ↓reduceIte, reduceCtorEq, Nat.reduceLeDiff, Nat.reduceLT, Int.reduceLE, Int.reduceLT, Int.reduceEq, Int.reduceNeg, Int.reduceToNat]; rfl, _, _, rfl, by omega, f1.put (by omega) (by omega), (ha.put hm).put (by omega)⟩
  · intro tm σ ⟨h1, h20, h21, h22, h', m', hσ, hm, hf', ha⟩ S hQ
    subst hσ
    have hlt : ¬ ((R.rs.length : Int) < (R.rs.length : Int)) := by omega
    simp -implicitDefEqProofs only [a54_L0, ev0, ev1, ev2, ev3, ev4, ev5, ev6, ev7, evx, if_true, if_false, Nat.reduceEqDiff, Nat.reduceAdd, Nat.reduceMul, Nat.reduceSub, ↓reduceIte, reduceCtorEq, Nat.reduceLeDiff, Nat.reduceLT, Int.reduceLE, Int.reduceLT, Int.reduceEq, Int.reduceNeg, Int.reduceToNat, h21, h22, hlt]
    exact hQ _ _ _ (by simp) ⟨rfl, by simp -implicitDefEqProofs only [ev0, ev1, ev2, ev3, ev4, ev5, ev6, ev7, evx, if_true, if_false, Nat.reduceEqDiff, Nat.reduceAdd, Nat.reduceMul, Nat.reduceSub, ↓reduceIte, reduceCtorEq, Nat.reduceLeDiff, Nat.reduceLT, Int.reduceLE, Int.reduceLT, Int.reduceEq, Int.reduceNeg, Int.reduceToNat, h1], _, _, rfl, hm, hf', ha⟩
theorem chk54_call {R : River} (hr : RivAt h v R) (hf : Fresh h n) (hv : Valid R) : (lim ft (oraOf 10 true)).call (.fn 54 [] []) [v] ⟨h, n, fl⟩ = some (.int .i64 0, ⟨h, n, fl⟩) := by
  obtain ⟨sl, rfl, hs⟩ := id hr
  obtain ⟨a, c, e, ck, rfl⟩ := hs.shape (List.length_map _)
  have h1 := hv.d1
  have h2 := hv.d2
  have h3 := hv.l1
  have h4 := hv.l2
  have f1 : Fresh (h.put n (some (.cells [.int .i64 R.days, .slc a R.rs.length c e ck] false))) (n + 1) := hf.put (by omega) (by omega)
  have c1 := within_1 (lo := 1) (hi := 40) (a := R.days) (b := n + 1) (n := n + 2) (c := 1) (e := 2) (ck := .exact) (ro := false) (fl := n) (f1.put (by omega) (by omega))
  have f2 := f1.put (b := n + 1) (o := some (.cells [.int .i64 R.days] false)) (n' := n + 2) (by omega) (by omega)
  have c2 := within_1 (lo := 1) (hi := 8) (a := R.rs.length) (b := n + 2) (n := n + 3) (c := 1) (e := 2) (ck := .exact) (ro := false) (fl := n) (f2.put (by omega) (by omega))
  have f3 := f2.put (b := n + 2) (o := some (.cells [.int .i64 R.rs.length] false)) (n' := n + 3) (by omega) (by omega)
  rw [inB_t (by omega) (by omega)] at c1 c2
  have hs1 := hs.put (o := some (.cells [.int .i64 R.days, .slc a R.rs.length c e ck] false)) hf (Nat.le_refl _)
  have hs2 := hs1.put (o := some (.cells [.int .i64 R.days] false)) f1 (Nat.le_refl _)
  have hs3 := hs2.put (o := some (.cells [.int .i64 R.rs.length] false)) f2 (Nat.le_refl _)
  refine pure_call rfl (by rfl) rfl rfl rfl ?_
  simp -implicitDefEqProofs only [a54, ev0, ev1, ev2, ev3, ev4, ev5, ev6, ev7, evx, if_true, if_false, Nat.reduceEqDiff, Nat.reduceAdd, Nat.reduceMul, Nat.reduceSub, ↓reduceIte, reduceCtorEq, Nat.reduceLeDiff, Nat.reduceLT, Int.reduceLE, Int.reduceLT, Int.reduceEq, Int.reduceNeg, Int.reduceToNat, c1, c2]
  generalize hT : T.put _ 22 _ = T0
  obtain ⟨x, tm', σ', e1, rfl, g1, h', m', rfl, hm, hf', ha⟩ := chk54_L0 (tm := T0) (b := n) (fl := n) hv hs3 (by simp -implicitDefEqProofs only [ev0, ev1, ev2, ev3, ev4, ev5, ev6, ev7, evx, if_true, if_false, Nat.reduceEqDiff, Nat.reduceAdd, Nat.reduceMul, Nat.reduceSub, ↓reduceIte, reduceCtorEq, Nat.reduceLeDiff, Nat.reduceLT, Int.reduceLE, Int.reduceLT, Int.reduceEq, Int.reduceNeg, Int.reduceToNat]) f3 (by omega) (by subst hT; simp -implicitDefEqProofs only [ev0, ev1, ev2, ev3, ev4, ev5, ev6, ev7, evx, if_true, if_false, Nat.reduceEqDiff, Nat.reduceAdd, Nat.reduceMul, Nat.reduceSub, ↓reduceIte, reduceCtorEq, Nat.reduceLeDiff, Nat.reduceLT, Int.reduceLE, Int.reduceLT, Int.reduceEq, Int.reduceNeg, Int.reduceToNat]) (by subst hT; simp -implicitDefEqProofs only [ev0, ev1, ev2, ev3, ev4, ev5, ev6, ev7, evx, if_true, if_false, Nat.reduceEqDiff, Nat.reduceAdd, Nat.reduceMul, Nat.reduceSub, ↓reduceIte, reduceCtorEq, Nat.reduceLeDiff, Nat.reduceLT, Int.reduceLE, Int.reduceLT, Int.reduceEq, Int.reduceNeg, Int.reduceToNat]) (by subst hT; simp -implicitDefEqProofs only [ev0, ev1, ev2, ev3, ev4, ev5, ev6, ev7, evx, if_true, if_false, Nat.reduceEqDiff, Nat.reduceAdd, Nat.reduceMul, Nat.reduceSub, ↓reduceIte, reduceCtorEq, Nat.reduceLeDiff, Nat.reduceLT, Int.reduceLE, Int.reduceLT, Int.reduceEq, Int.reduceNeg, Int.reduceToNat]) (by subst hT; simp -implicitDefEqProofs only [ev0, ev1, ev2, ev3, ev4, ev5, ev6, ev7, evx, if_true, if_false, Nat.reduceEqDiff, Nat.reduceAdd, Nat.reduceMul, Nat.reduceSub, ↓reduceIte, reduceCtorEq, Nat.reduceLeDiff, Nat.reduceLT, Int.reduceLE, Int.reduceLT, Int.reduceEq, Int.reduceNeg, Int.reduceToNat])
  have hbox : h'.get n = some (.cells [.int .i64 R.days, .slc a R.rs.length c e ck] false) := by rw [ha n (by omega)]; simp -implicitDefEqProofs only [ev0, ev1, ev2, ev3, ev4, ev5, ev6, ev7, evx, if_true, if_false, Nat.reduceEqDiff, Nat.reduceAdd, Nat.reduceMul, Nat.reduceSub, ↓reduceIte, reduceCtorEq, Nat.reduceLeDiff, Nat.reduceLT, Int.reduceLE, Int.reduceLT, Int.reduceEq, Int.reduceNeg, Int.reduceToNat]
  have hs' := hs3.agree f3 ha
  have hany := has_call (O := (oraOf 10 true)) (ft := ft) (g := 63) (g2 := 60) (n := m') (fl := n) (f := .fn 59 [] [.ptr (some (n, 0))]) (p := fun _ => false) (by rfl) (by rfl) rfl rfl hs' (by simp; omega) (fun x hx => by
    obtain ⟨r, hr, rfl⟩ := List.mem_map.1 hx
    exact odd_call (hv.rg r hr) h2 hbox hf')
  have hno : (R.rs.map Reach.av).any (fun _ => false) = false := by simp
  rw [hno] at hany
  simp -implicitDefEqProofs only [e1, ev0, ev1, ev2, ev3, ev4, ev5, ev6, ev7, evx, if_true, if_false, Nat.reduceEqDiff, Nat.reduceAdd, Nat.reduceMul, Nat.reduceSub, ↓reduceIte, reduceCtorEq, Nat.reduceLeDiff, Nat.reduceLT, Int.reduceLE, Int.reduceLT, Int.reduceEq, Int.reduceNeg, Int.reduceToNat, g1, hbox, hany]
/-- The check of a river, and of days. -/
theorem chk36_call {R : River} {l : List Int} {s : AV} (hr : RivAt h v R) (hf : Fresh h n) (hv : Valid R) (hs : SlI h s l) (hl : l.length < 1000) (hin : l.all (inB 1 R.days) = true) :
    (lim ft (oraOf 10 true)).call (.fn 36 [] []) [v, s] ⟨h, n, fl⟩ = some (.int .i64 0, ⟨h, n, fl⟩) := by
  obtain ⟨sl, rfl, hsl⟩ := id hr
  obtain ⟨a, c, e, ck, rfl⟩ := hsl.shape (List.length_map _)
  have f1 : Fresh (h.put n (some (.cells [.int .i64 R.days, .slc a R.rs.length c e ck] false))) (n + 1) := hf.put (by omega) (by omega)
  have c1 := chk54_call (n := n + 1) (fl := n) (v := .agg [.int .i64 R.days, .slc a R.rs.length c e ck]) ⟨_, rfl, hsl.put (o := some (.cells [.int .i64 R.days, .slc a R.rs.length c e ck] false)) hf (Nat.le_refl _)⟩ f1 hv
  have c2 := within_call (lo := 1) (hi := R.days) (fl := n) (n := n + 1) (SlV.put (o := some (.cells [.int .i64 R.days, .slc a R.rs.length c e ck] false)) hs hf (Nat.le_refl _)) (by omega) f1
  rw [hin] at c2
  refine pure_call rfl (by rfl) rfl rfl rfl ?_
  simp -implicitDefEqProofs only [a36, ev0, ev1, ev2, ev3, ev4, ev5, ev6, ev7, evx, if_true, if_false, Nat.reduceEqDiff, Nat.reduceAdd, Nat.reduceMul, Nat.reduceSub, ↓reduceIte, reduceCtorEq, Nat.reduceLeDiff, Nat.reduceLT, Int.reduceLE, Int.reduceLT, Int.reduceEq, Int.reduceNeg, Int.reduceToNat, c1, c2]
end
end Go.AM
/- Open days. -/
namespace Go.AM
open Go
noncomputable section
variable {tm tm' : T AV} {σ σ' : AS} {h h' : T AObj} {n n' fl : Nat} {v : AV}

def isOpen (x : Reach) (day : Int) : Bool := decide (x.lo ≤ day) && decide (day ≤ x.hi) && decide ((day - x.lo) % x.every = 0)
theorem isOpen_iff {x : Reach} {day : Int} : isOpen x day = true ↔ x.lo ≤ day ∧ day ≤ x.hi ∧ (day - x.lo) % x.every = 0 := by simp [isOpen, and_assoc]
/-- The days of a reach, counted. -/
theorem open_at {x : Reach} (he : 1 ≤ x.every) {i : Nat} {day : Int} (hlt : ∀ j : Nat, j < i → x.lo + j * x.every < day) (hd : day ≤ x.lo + i * x.every) (hh : x.lo + i * x.every ≤ x.hi) :
    decide (x.lo + i * x.every = day) = isOpen x day := by
  by_cases e : x.lo + i * x.every = day
  · have : isOpen x day = true := isOpen_iff.2 ⟨by have := Int.mul_nonneg (show (0 : Int) ≤ i by omega) (show 0 ≤ x.every by omega); omega, by omega, by rw [show day - x.lo = i * x.every by omega]; exact Int.mul_emod_left _ _⟩
    rw [this]; simp [e]
  · have : isOpen x day = false := by
      cases ho : isOpen x day with
      | false => rfl
      | true =>
        exfalso
        obtain ⟨h1, h2, h3⟩ := isOpen_iff.1 ho
        obtain ⟨q, hq⟩ := Int.dvd_of_emod_eq_zero h3
        have hq0 : 0 ≤ q := by
          rcases Int.lt_or_le q 0 with hn | hn
          · have := Int.mul_neg_of_pos_of_neg (show 0 < x.every by omega) hn; omega
          · exact hn
        obtain ⟨m, rfl⟩ := Int.eq_ofNat_of_zero_le hq0
        rw [Int.mul_comm] at hq
        rcases Nat.lt_trichotomy m i with c | c | c
        · have := hlt m c; omega
        · subst c; omega
        · have h4 : ((i : Int) + 1) * x.every ≤ (m : Int) * x.every := Int.mul_le_mul_of_nonneg_right (by omega) (by omega)
          rw [Int.add_mul] at h4; omega
    rw [this]; simp [e]
theorem open_no {x : Reach} (he : 1 ≤ x.every) {i : Nat} {day : Int} (hlt : ∀ j : Nat, j < i → x.lo + j * x.every < day) (hh : x.hi < x.lo + i * x.every) : isOpen x day = false := by
  cases ho : isOpen x day with
  | false => rfl
  | true =>
    exfalso
    obtain ⟨h1, h2, h3⟩ := isOpen_iff.1 ho
    obtain ⟨q, hq⟩ := Int.dvd_of_emod_eq_zero h3
    have hq0 : 0 ≤ q := by
      rcases Int.lt_or_le q 0 with hn | hn
      · have := Int.mul_neg_of_pos_of_neg (show 0 < x.every by omega) hn; omega
      · exact hn
    obtain ⟨m, rfl⟩ := Int.eq_ofNat_of_zero_le hq0
    rw [Int.mul_comm] at hq
    rcases Nat.lt_or_ge m i with c | c
    · have := hlt m c; omega
    · have h4 : (i : Int) * x.every ≤ (m : Int) * x.every := Int.mul_le_mul_of_nonneg_right (by omega) (by omega)
      omega
/-- The cells of a reach. -/
def Reach.cl (r : Reach) : List AV := [.int .i64 r.down, .int .i64 r.pass, .int .i64 r.takes, .int .i64 r.lo, .int .i64 r.hi, .int .i64 r.every, .int .i64 r.logs, .int .i64 r.ready]
/-- The days from one on, up to the first. -/
theorem days_first {x : Reach} {day : Int} {bx bf l : Nat} {ro1 ro2 : Bool} {σd : Int → AS} (he : 1 ≤ x.every) (he2 : x.every ≤ 10) (hlo : 0 ≤ x.lo) (hhi : x.hi ≤ 1000000)
    (hx : h.get bx = some (.cells x.cl ro1)) (hf : h.get bf = some (.cells [.int .i64 day] ro2)) (hy : ∀ d : Int, (lim ft (oraOf 10 true)).call (.yld l) [.int .i64 d] ⟨h, n, fl⟩ = some (.bool false, σd d))
    (h0 : tm.get 0 = some (.yld l)) (h1 : tm.get 1 = some (.ptr (some (bx, 0)))) (h2 : tm.get 2 = some (.ptr (some (bf, 0)))) (h4 : tm.get 4 = some (.int .i64 x.lo)) :
    Done ((lim ft (oraOf 10 true)).exec (.loop a62_L0) tm ⟨h, n, fl⟩) fun e _ σ' => (e = .ret ∧ ∃ d, σ' = σd d ∧ decide (d = day) = isOpen x day) ∨ (e = .exit 0 ∧ σ' = ⟨h, n, fl⟩ ∧ isOpen x day = false) := by
  have hend : x.hi < x.lo + ((x.hi.toNat + 1 : Nat) : Int) * x.every := by
    have : ((x.hi.toNat + 1 : Nat) : Int) * 1 ≤ ((x.hi.toNat + 1 : Nat) : Int) * x.every := Int.mul_le_mul_of_nonneg_left he (by omega)
    omega
  refine loop_up (fun i tm σ => σ = ⟨h, n, fl⟩ ∧ tm.get 0 = some (.yld l) ∧ tm.get 1 = some (.ptr (some (bx, 0))) ∧ tm.get 2 = some (.ptr (some (bf, 0))) ∧ tm.get 4 = some (.int .i64 (x.lo + i * x.every)) ∧ ∀ j : Nat, j < i → x.lo + j * x.every < day) _ (x.hi.toNat + 1) ?_ ?_
    (x.hi.toNat + 1) 0 tm _ (by omega) ⟨rfl, h0, h1, h2, by simpa using h4, fun j hj => by omega⟩
  · intro i tm σ hi ⟨hσ, h0, h1, h2, h4, hlt⟩ S hI hQ
    subst hσ
    by_cases q1 : x.lo + i * x.every ≤ x.hi
    · have hw : wrapF .i64 (x.lo + i * x.every + x.every) = x.lo + ((i + 1 : Nat) : Int) * x.every := by
        have h5 := Int.mul_nonneg (show (0 : Int) ≤ i by omega) (show 0 ≤ x.every by omega)
        rw [wrap64 (by omega) (by omega)]
        rw [Int.natCast_add, Int.add_mul]; omega
      by_cases q2 : day ≤ x.lo + i * x.every
      · simp -implicitDefEqProofs only [a62_L0, ev0, ev1, ev2, ev3, ev4, ev5, ev6, ev7, evx, if_true, if_false, Nat.reduceEqDiff, Nat.reduceAdd, Nat.reduceMul, Nat.reduceSub, ↓reduceIte, reduceCtorEq, Nat.reduceLeDiff, Nat.reduceLT, Int.reduceLE, Int.reduceLT, Int.reduceEq, Int.reduceNeg, Int.reduceToNat, h0, h1, h2, h4, hx, hf, Reach.cl, q1, q2, hy]
        exact hQ _ _ _ (by simp) (.inl ⟨rfl, _, rfl, open_at he hlt q2 q1⟩)
      · simp -implicitDefEqProofs only [a62_L0, ev0, ev1, ev2, ev3, ev4, ev5, ev6, ev7, evx, if_true, if_false, Nat.reduceEqDiff, Nat.reduceAdd, Nat.reduceMul, Nat.reduceSub, ↓reduceIte, reduceCtorEq, Nat.reduceLeDiff, Nat.reduceLT, Int.reduceLE, Int.reduceLT, Int.reduceEq, Int.reduceNeg, Int.reduceToNat, h0, h1, h2, h4, hx, hf, Reach.cl, q1, q2, hw]
        refine hI _ _ ⟨rfl, by simp -implicitDefEqProofs only [ev0, ev1, ev2, ev3, ev4, ev5, ev6, ev7, evx, if_true, if_false, Nat.reduceEqDiff, Nat.reduceAdd, Nat.reduceMul, Nat.reduceSub, ↓reduceIte, reduceCtorEq, Nat.reduceLeDiff, Nat.reduceLT, Int.reduceLE, Int.reduceLT, Int.reduceEq, Int.reduceNeg, Int.reduceToNat, h0], by simp -implicitDefEqProofs only [ev0, ev1, ev2, ev3, ev4, ev5, ev6, ev7, evx, if_true, if_false, Nat.reduceEqDiff, Nat.reduceAdd, Nat.reduceMul, Nat.reduceSub, ↓reduceIte, reduceCtorEq, Nat.reduceLeDiff, Nat.reduceLT, Int.reduceLE, Int.reduceLT, Int.reduceEq, Int.reduceNeg, Int.reduceToNat, h1], by simp -implicitDefEqProofs only [ev0, ev1, ev2, ev3, ev4, ev5, ev6, ev7, evx, if_true, if_false, Nat.reduceEqDiff, Nat.reduceAdd, Nat.reduceMul, Nat.reduceSub, ↓reduceIte, reduceCtorEq, Nat.reduceLeDiff, Nat.reduceLT, Int.reduceLE, Int.reduceLT, Int.reduceEq, Int.reduceNeg, Int.reduceToNat, h2], by simp -implicitDefEqProofs only [ev0, ev1, ev2, ev3, ev4, ev5, ev6, ev7, evx, if_true, if_false, Nat.reduceEqDiff, Nat.reduceAdd, Nat.reduceMul, Nat.reduceSub, ↓reduceIte, reduceCtorEq, Nat.reduceLeDiff, Nat.reduceLT, Int.reduceLE, Int.reduceLT, Int.reduceEq, Int.reduceNeg, Int.reduceToNat], fun j hj => ?_⟩
        by_cases e : j = i
        · subst e; omega
        · exact hlt j (by omega)
    · simp -implicitDefEqProofs only [a62_L0, ev0, ev1, ev2, ev3, ev4, ev5, ev6, ev7, evx, if_true, if_false, Nat.reduceEqDiff, Nat.reduceAdd, Nat.reduceMul, Nat.reduceSub, ↓reduceIte, reduceCtorEq, Nat.reduceLeDiff, Nat.reduceLT, Int.reduceLE, Int.reduceLT, Int.reduceEq, Int.reduceNeg, Int.reduceToNat, h0, h1, h2, h4, hx, hf, Reach.cl, q1]
      exact hQ _ _ _ (by simp) (.inr ⟨rfl, rfl, open_no he hlt (by omega)⟩)
  · intro tm σ ⟨hσ, h0, h1, h2, h4, hlt⟩ S hQ
    subst hσ
    have q1 : ¬ x.lo + ((x.hi.toNat + 1 : Nat) : Int) * x.every ≤ x.hi := by omega
    simp -implicitDefEqProofs only [a62_L0, ev0, ev1, ev2, ev3, ev4, ev5, ev6, ev7, evx, if_true, if_false, Nat.reduceEqDiff, Nat.reduceAdd, Nat.reduceMul, Nat.reduceSub, ↓reduceIte, reduceCtorEq, Nat.reduceLeDiff, Nat.reduceLT, Int.reduceLE, Int.reduceLT, Int.reduceEq, Int.reduceNeg, Int.reduceToNat, h0, h1, h2, h4, hx, hf, Reach.cl, q1]
    exact hQ _ _ _ (by simp) (.inr ⟨rfl, rfl, open_no he hlt (by omega)⟩)
theorem days_call {x : Reach} {day : Int} {m : Nat} : (lim ft (oraOf 10 true)).call (.fn 57 [] []) [x.av, .int .i64 day] ⟨h, m, fl⟩ =
    some (.fn 62 [] [.ptr (some (m, 0)), .ptr (some (m + 1, 0))], ⟨(h.put m (some (.cells x.cl false))).put (m + 1) (some (.cells [.int .i64 day] false)), m + 2, fl⟩) := by
  refine call_eqn rfl (by rfl) rfl rfl fun R hR => ?_
  simp -implicitDefEqProofs only [Reach.av, a57, ev0, ev1, ev2, ev3, ev4, ev5, ev6, ev7, evx, if_true, if_false, Nat.reduceEqDiff, Nat.reduceAdd, Nat.reduceMul, Nat.reduceSub, ↓reduceIte, reduceCtorEq, Nat.reduceLeDiff, Nat.reduceLT, Int.reduceLE, Int.reduceLT, Int.reduceEq, Int.reduceNeg, Int.reduceToNat]
  exact hR _ _ (by simp) (by simp -implicitDefEqProofs only [a57, ev0, ev1, ev2, ev3, ev4, ev5, ev6, ev7, evx, if_true, if_false, Nat.reduceEqDiff, Nat.reduceAdd, Nat.reduceMul, Nat.reduceSub, ↓reduceIte, reduceCtorEq, Nat.reduceLeDiff, Nat.reduceLT, Int.reduceLE, Int.reduceLT, Int.reduceEq, Int.reduceNeg, Int.reduceToNat])
theorem days_first_call {x : Reach} {day : Int} {bx bf l : Nat} {ro1 ro2 : Bool} {σd : Int → AS} (he : 1 ≤ x.every) (he2 : x.every ≤ 10) (hlo : 0 ≤ x.lo) (hhi : x.hi ≤ 1000000)
    (hx : h.get bx = some (.cells x.cl ro1)) (hf : h.get bf = some (.cells [.int .i64 day] ro2)) (hy : ∀ d : Int, (lim ft (oraOf 10 true)).call (.yld l) [.int .i64 d] ⟨h, n, fl⟩ = some (.bool false, σd d)) :
    ∃ v σ', (lim ft (oraOf 10 true)).call (.fn 62 [] [.ptr (some (bx, 0)), .ptr (some (bf, 0))]) [.yld l] ⟨h, n, fl⟩ = some (v, σ') ∧ ((∃ d, σ' = σd d ∧ decide (d = day) = isOpen x day) ∨ (σ' = ⟨h, n, fl⟩ ∧ isOpen x day = false)) := by
  refine call_done rfl (by rfl) rfl rfl fun R hR => ?_
  simp -implicitDefEqProofs only [a62, ev0, ev1, ev2, ev3, ev4, ev5, ev6, ev7, evx, if_true, if_false, Nat.reduceEqDiff, Nat.reduceAdd, Nat.reduceMul, Nat.reduceSub, ↓reduceIte, reduceCtorEq, Nat.reduceLeDiff, Nat.reduceLT, Int.reduceLE, Int.reduceLT, Int.reduceEq, Int.reduceNeg, Int.reduceToNat, hx, Reach.cl]
  generalize hT : T.put _ 4 _ = T0
  obtain ⟨e, tm', ⟨h', m', fl'⟩, e1, e2⟩ := days_first (tm := T0) (l := l) he he2 hlo hhi hx hf hy (by subst hT; simp -implicitDefEqProofs only [ev0, ev1, ev2, ev3, ev4, ev5, ev6, ev7, evx, if_true, if_false, Nat.reduceEqDiff, Nat.reduceAdd, Nat.reduceMul, Nat.reduceSub, ↓reduceIte, reduceCtorEq, Nat.reduceLeDiff, Nat.reduceLT, Int.reduceLE, Int.reduceLT, Int.reduceEq, Int.reduceNeg, Int.reduceToNat]) (by subst hT; simp -implicitDefEqProofs only [ev0, ev1, ev2, ev3, ev4, ev5, ev6, ev7, evx, if_true, if_false, Nat.reduceEqDiff, Nat.reduceAdd, Nat.reduceMul, Nat.reduceSub, ↓reduceIte, reduceCtorEq, Nat.reduceLeDiff, Nat.reduceLT, Int.reduceLE, Int.reduceLT, Int.reduceEq, Int.reduceNeg, Int.reduceToNat]) (by subst hT; simp -implicitDefEqProofs only [ev0, ev1, ev2, ev3, ev4, ev5, ev6, ev7, evx, if_true, if_false, Nat.reduceEqDiff, Nat.reduceAdd, Nat.reduceMul, Nat.reduceSub, ↓reduceIte, reduceCtorEq, Nat.reduceLeDiff, Nat.reduceLT, Int.reduceLE, Int.reduceLT, Int.reduceEq, Int.reduceNeg, Int.reduceToNat]) (by subst hT; simp -implicitDefEqProofs only [ev0, ev1, ev2, ev3, ev4, ev5, ev6, ev7, evx, if_true, if_false, Nat.reduceEqDiff, Nat.reduceAdd, Nat.reduceMul, Nat.reduceSub, ↓reduceIte, reduceCtorEq, Nat.reduceLeDiff, Nat.reduceLT, Int.reduceLE, Int.reduceLT, Int.reduceEq, Int.reduceNeg, Int.reduceToNat])
  rcases e2 with ⟨rfl, d, e3, e4⟩ | ⟨rfl, e3, e4⟩
  · simp -implicitDefEqProofs only [e1, ev0, ev1, ev2, ev3, ev4, ev5, ev6, ev7, evx, if_true, if_false, Nat.reduceEqDiff, Nat.reduceAdd, Nat.reduceMul, Nat.reduceSub, ↓reduceIte, reduceCtorEq, Nat.reduceLeDiff, Nat.reduceLT, Int.reduceLE, Int.reduceLT, Int.reduceEq, Int.reduceNeg, Int.reduceToNat]
    exact hR _ _ _ (.tup []) (by simp) rfl (.inl ⟨d, e3, e4⟩)
  · simp -implicitDefEqProofs only [e1, ev0, ev1, ev2, ev3, ev4, ev5, ev6, ev7, evx, if_true, if_false, Nat.reduceEqDiff, Nat.reduceAdd, Nat.reduceMul, Nat.reduceSub, ↓reduceIte, reduceCtorEq, Nat.reduceLeDiff, Nat.reduceLT, Int.reduceLE, Int.reduceLT, Int.reduceEq, Int.reduceNeg, Int.reduceToNat]
    exact hR _ _ _ (.tup []) (by simp) rfl (.inr ⟨e3, e4⟩)
theorem isOpen_call {x : Reach} {day : Int} (he : 1 ≤ x.every) (he2 : x.every ≤ 10) (hlo : 0 ≤ x.lo) (hhi : x.hi ≤ 1000000) :
    (lim ft (oraOf 10 true)).call (.fn 45 [] []) [x.av, .int .i64 day] ⟨h, n, fl⟩ = some (.bool (isOpen x day), ⟨h, n, fl⟩) := by
  refine pure_call rfl (by rfl) rfl rfl rfl ?_
  have c57 := @days_call
  simp -implicitDefEqProofs only [a45, Reach.av, ev0, ev1, ev2, ev3, ev4, ev5, ev6, ev7, evx, if_true, if_false, Nat.reduceEqDiff, Nat.reduceAdd, Nat.reduceMul, Nat.reduceSub, ↓reduceIte, reduceCtorEq, Nat.reduceLeDiff, Nat.reduceLT, Int.reduceLE, Int.reduceLT, Int.reduceEq, Int.reduceNeg, Int.reduceToNat]
  simp -implicitDefEqProofs only [Reach.av] at c57
  simp -implicitDefEqProofs only [c57, ev0, ev1, ev2, ev3, ev4, ev5, ev6, ev7, evx, if_true, if_false, Nat.reduceEqDiff, Nat.reduceAdd, Nat.reduceMul, Nat.reduceSub, ↓reduceIte, reduceCtorEq, Nat.reduceLeDiff, Nat.reduceLT, Int.reduceLE, Int.reduceLT, Int.reduceEq, Int.reduceNeg, Int.reduceToNat, Reach.cl]
  generalize hT : T.put _ 8 _ = T0
  generalize hH : T.put _ (n + 5) _ = H
  have t3 : T0.get 3 = some (.ptr (some (n + 1, 0))) := by subst hT; simp -implicitDefEqProofs only [ev0, ev1, ev2, ev3, ev4, ev5, ev6, ev7, evx, if_true, if_false, Nat.reduceEqDiff, Nat.reduceAdd, Nat.reduceMul, Nat.reduceSub, ↓reduceIte, reduceCtorEq, Nat.reduceLeDiff, Nat.reduceLT, Int.reduceLE, Int.reduceLT, Int.reduceEq, Int.reduceNeg, Int.reduceToNat]
  have t4 : T0.get 4 = some (.ptr (some (n + 2, 0))) := by subst hT; simp -implicitDefEqProofs only [ev0, ev1, ev2, ev3, ev4, ev5, ev6, ev7, evx, if_true, if_false, Nat.reduceEqDiff, Nat.reduceAdd, Nat.reduceMul, Nat.reduceSub, ↓reduceIte, reduceCtorEq, Nat.reduceLeDiff, Nat.reduceLT, Int.reduceLE, Int.reduceLT, Int.reduceEq, Int.reduceNeg, Int.reduceToNat]
  have g1 : H.get (n + 1) = some (.cells [.int .i64 day] false) := by subst hH; simp -implicitDefEqProofs only [ev0, ev1, ev2, ev3, ev4, ev5, ev6, ev7, evx, if_true, if_false, Nat.reduceEqDiff, Nat.reduceAdd, Nat.reduceMul, Nat.reduceSub, ↓reduceIte, reduceCtorEq, Nat.reduceLeDiff, Nat.reduceLT, Int.reduceLE, Int.reduceLT, Int.reduceEq, Int.reduceNeg, Int.reduceToNat]
  have g2 : H.get (n + 2) = some (.cells [.bool false] false) := by subst hH; simp -implicitDefEqProofs only [ev0, ev1, ev2, ev3, ev4, ev5, ev6, ev7, evx, if_true, if_false, Nat.reduceEqDiff, Nat.reduceAdd, Nat.reduceMul, Nat.reduceSub, ↓reduceIte, reduceCtorEq, Nat.reduceLeDiff, Nat.reduceLT, Int.reduceLE, Int.reduceLT, Int.reduceEq, Int.reduceNeg, Int.reduceToNat]
  have g3 : H.get (n + 3) = some (.cells x.cl false) := by subst hH; simp -implicitDefEqProofs only [ev0, ev1, ev2, ev3, ev4, ev5, ev6, ev7, evx, if_true, if_false, Nat.reduceEqDiff, Nat.reduceAdd, Nat.reduceMul, Nat.reduceSub, ↓reduceIte, reduceCtorEq, Nat.reduceLeDiff, Nat.reduceLT, Int.reduceLE, Int.reduceLT, Int.reduceEq, Int.reduceNeg, Int.reduceToNat, Reach.cl]
  have g4 : H.get (n + 4) = some (.cells [.int .i64 day] false) := by subst hH; simp -implicitDefEqProofs only [ev0, ev1, ev2, ev3, ev4, ev5, ev6, ev7, evx, if_true, if_false, Nat.reduceEqDiff, Nat.reduceAdd, Nat.reduceMul, Nat.reduceSub, ↓reduceIte, reduceCtorEq, Nat.reduceLeDiff, Nat.reduceLT, Int.reduceLE, Int.reduceLT, Int.reduceEq, Int.reduceNeg, Int.reduceToNat]
  have g5 : H.get (n + 5) = some (.loop { busy := false, done := false, pending := .normal, tmps := T0, params := [9], assign := a45_A0, body := a45_B1 }) := by subst hH; simp -implicitDefEqProofs only [ev0, ev1, ev2, ev3, ev4, ev5, ev6, ev7, evx, if_true, if_false, Nat.reduceEqDiff, Nat.reduceAdd, Nat.reduceMul, Nat.reduceSub, ↓reduceIte, reduceCtorEq, Nat.reduceLeDiff, Nat.reduceLT, Int.reduceLE, Int.reduceLT, Int.reduceEq, Int.reduceNeg, Int.reduceToNat]
  have hy : ∀ d : Int, (lim ft (oraOf 10 true)).call (.yld (n + 5)) [.int .i64 d] ⟨H, n + 6, n⟩ = some (.bool false, ⟨((H.put (n + 5) (some (.loop { busy := true, done := false, pending := .normal, tmps := T0, params := [9], assign := a45_A0, body := a45_B1 }))).put (n + 2) (some (.cells [.bool (decide (d = day))] false))).put (n + 5)
      (some (.loop { busy := false, done := true, pending := .ret, tmps := T0, params := [9], assign := a45_A0, body := a45_B1 })), n + 6, n⟩) := by
    intro d
    rw [yld_call (tm1 := T0.put 9 (some (.int .i64 d))) (tm2 := (T0.put 9 (some (.int .i64 d))).put 5 (some (.int .i64 d))) (n2 := n + 6) (fl2 := n) (h2 := H) (x := .ret)
      (tm3 := (((((T0.put 9 (some (.int .i64 d))).put 5 (some (.int .i64 d))).put 10 (some (.int .i64 d))).put 11 (some (.int .i64 day))).put 12 (some (.bool (decide (d = day))))))
      (σ3 := ⟨(H.put (n + 5) (some (.loop { busy := true, done := false, pending := .normal, tmps := T0, params := [9], assign := a45_A0, body := a45_B1 }))).put (n + 2) (some (.cells [.bool (decide (d = day))] false)), n + 6, n⟩) rfl (by omega) g5 rfl rfl rfl (by simp -implicitDefEqProofs only [a45_A0, ev0, ev1, ev2, ev3, ev4, ev5, ev6, ev7, evx, if_true, if_false, Nat.reduceEqDiff, Nat.reduceAdd, Nat.reduceMul, Nat.reduceSub, ↓reduceIte, reduceCtorEq, Nat.reduceLeDiff, Nat.reduceLT, Int.reduceLE, Int.reduceLT, Int.reduceEq, Int.reduceNeg, Int.reduceToNat]) g5 rfl rfl (by simp -implicitDefEqProofs only [a45_B1, ev0, ev1, ev2, ev3, ev4, ev5, ev6, ev7, evx, if_true, if_false, Nat.reduceEqDiff, Nat.reduceAdd, Nat.reduceMul, Nat.reduceSub, ↓reduceIte, reduceCtorEq, Nat.reduceLeDiff, Nat.reduceLT, Int.reduceLE, Int.reduceLT, Int.reduceEq, Int.reduceNeg, Int.reduceToNat, t3, t4, g1, g2]), yieldEnd_r]
  obtain ⟨u, ⟨h', m', fl'⟩, e1, e2⟩ := days_first_call (l := n + 5) he he2 hlo hhi g3 g4 hy
  rcases e2 with ⟨d, e3, e4⟩ | ⟨e3, e4⟩
  · cases e3
    rw [e1, rng_s hget_eq rfl]
    simp -implicitDefEqProofs only [ev0, ev1, ev2, ev3, ev4, ev5, ev6, ev7, evx, if_true, if_false, Nat.reduceEqDiff, Nat.reduceAdd, Nat.reduceMul, Nat.reduceSub, ↓reduceIte, reduceCtorEq, Nat.reduceLeDiff, Nat.reduceLT, Int.reduceLE, Int.reduceLT, Int.reduceEq, Int.reduceNeg, Int.reduceToNat, t4, e4]
  · cases e3
    rw [e1, rng_s g5 rfl]
    simp -implicitDefEqProofs only [ev0, ev1, ev2, ev3, ev4, ev5, ev6, ev7, evx, if_true, if_false, Nat.reduceEqDiff, Nat.reduceAdd, Nat.reduceMul, Nat.reduceSub, ↓reduceIte, reduceCtorEq, Nat.reduceLeDiff, Nat.reduceLT, Int.reduceLE, Int.reduceLT, Int.reduceEq, Int.reduceNeg, Int.reduceToNat, t4, g2, e4]
end
end Go.AM
/- The early plan in plain numbers: how many logs have come above a reach, and have entered it, up to a day. -/
namespace Go.AM

def Reach.zero : Reach := ⟨-5, 0, 0, 0, 0, 0, 0, 0⟩
/-- A reach by its number. -/
def River.at (R : River) (i : Nat) : Reach := R.rs.getD i Reach.zero
def sumTo (f : Nat → Int) : Nat → Int
  | 0 => 0
  | k + 1 => sumTo f k + f k
theorem sumTo_congr {f g : Nat → Int} : ∀ {k : Nat}, (∀ u, u < k → f u = g u) → sumTo f k = sumTo g k
  | 0, _ => rfl
  | k + 1, h => by
    show sumTo f k + f k = sumTo g k + g k
    rw [sumTo_congr (fun u hu => h u (by omega)), h k (by omega)]
theorem sumTo_le {f g : Nat → Int} : ∀ {k : Nat}, (∀ u, u < k → f u ≤ g u) → sumTo f k ≤ sumTo g k
  | 0, _ => Int.le_refl _
  | k + 1, h => by
    show sumTo f k + f k ≤ sumTo g k + g k
    have := sumTo_le (k := k) (fun u hu => h u (by omega))
    have := h k (by omega)
    omega
theorem sumTo_add {f g : Nat → Int} : ∀ {k : Nat}, sumTo (fun u => f u + g u) k = sumTo f k + sumTo g k
  | 0 => rfl
  | k + 1 => by
    show sumTo (fun u => f u + g u) k + (f k + g k) = sumTo f k + f k + (sumTo g k + g k)
    rw [sumTo_add]; omega
theorem sumTo_sub {f g : Nat → Int} : ∀ {k : Nat}, sumTo (fun u => f u - g u) k = sumTo f k - sumTo g k
  | 0 => rfl
  | k + 1 => by
    show sumTo (fun u => f u - g u) k + (f k - g k) = sumTo f k + f k - (sumTo g k + g k)
    rw [sumTo_sub]; omega
theorem sumTo_zero {f : Nat → Int} {k : Nat} (h : ∀ u, u < k → f u = 0) : sumTo f k = 0 := by
  rw [sumTo_congr (g := fun _ => 0) h]
  clear h
  induction k with
  | zero => rfl
  | succ k ih => show sumTo _ k + 0 = 0; rw [ih]; rfl
theorem sumTo_nonneg {f : Nat → Int} {k : Nat} (h : ∀ u, u < k → 0 ≤ f u) : 0 ≤ sumTo f k := by
  have := sumTo_le (f := fun _ => 0) (g := f) (k := k) h
  rw [sumTo_zero (fun _ _ => rfl)] at this; exact this
/-- One term differs. -/
theorem sumTo_one {f g : Nat → Int} {i : Nat} : ∀ {k : Nat}, i < k → (∀ u, u < k → u ≠ i → f u = g u) → sumTo f k = sumTo g k + (f i - g i)
  | 0, h, _ => by omega
  | k + 1, h, hne => by
    show sumTo f k + f k = sumTo g k + g k + (f i - g i)
    by_cases e : i = k
    · subst e
      rw [sumTo_congr (f := f) (g := g) (fun u hu => hne u (by omega) (by omega))]; omega
    · rw [sumTo_one (i := i) (by omega) (fun u hu hu' => hne u (by omega) hu'), hne k (by omega) (by omega)]; omega
/-- Terms from i on are nothing. -/
theorem sumTo_cut {f : Nat → Int} {i : Nat} : ∀ {k : Nat}, i ≤ k → (∀ u, i ≤ u → u < k → f u = 0) → sumTo f k = sumTo f i
  | 0, h, _ => by have : i = 0 := by omega
                  subst this; rfl
  | k + 1, h, hz => by
    by_cases e : i = k + 1
    · subst e; rfl
    · show sumTo f k + f k = _
      rw [hz k (by omega) (by omega), sumTo_cut (by omega) (fun u a b => hz u a (by omega))]; omega

/-- How many logs have entered a reach up to a day. -/
def ent (R : River) (i : Nat) : Nat → Int
  | 0 => 0
  | d + 1 =>
    if isOpen (R.at i) ((d : Int) + 1) then
      min (ent R i d + (R.at i).pass) ((if (R.at i).ready ≤ (d : Int) + 1 then (R.at i).logs else 0) + sumTo (fun u => if h : u < i then (if (R.at u).down = (i : Int) then ent R u (d + 1 - (R.at u).takes.toNat) else 0) else 0) i)
    else ent R i d
termination_by d => (i, d)
/-- How many have come above it. -/
def com (R : River) (i d : Nat) : Int := (if (R.at i).ready ≤ (d : Int) then (R.at i).logs else 0) + sumTo (fun u => if (R.at u).down = (i : Int) then ent R u (d - (R.at u).takes.toNat) else 0) i
/-- How many have come to the boom. -/
def bom (R : River) (d : Nat) : Int := sumTo (fun u => if (R.at u).down = -1 then ent R u (d - (R.at u).takes.toNat) else 0) R.rs.length

theorem ent_zero (R : River) (i : Nat) : ent R i 0 = 0 := by rw [ent]
theorem ent_succ (R : River) (i d : Nat) : ent R i (d + 1) = if isOpen (R.at i) ((d : Int) + 1) then min (ent R i d + (R.at i).pass) (com R i (d + 1)) else ent R i d := by
  rw [ent]
  have : sumTo (fun u => if h : u < i then (if (R.at u).down = (i : Int) then ent R u (d + 1 - (R.at u).takes.toNat) else 0) else 0) i = sumTo (fun u => if (R.at u).down = (i : Int) then ent R u (d + 1 - (R.at u).takes.toNat) else 0) i :=
    sumTo_congr fun u hu => by simp [hu]
  rw [this]
  simp only [com, Int.natCast_add, Int.natCast_one]

theorem Valid.at {R : River} (hv : Valid R) {i : Nat} (hi : i < R.rs.length) : R.at i = R.rs[i] := by
  unfold River.at; rw [List.getD_eq_getElem?_getD, List.getElem?_eq_getElem hi]; rfl
theorem at_of {R : River} {i : Nat} {x : Reach} (hx : R.rs[i]? = some x) : R.at i = x := by
  unfold River.at; rw [List.getD_eq_getElem?_getD, hx]; rfl
theorem at_out {R : River} {i : Nat} (hi : R.rs.length ≤ i) : R.at i = Reach.zero := by
  unfold River.at; rw [List.getD_eq_getElem?_getD, List.getElem?_eq_none hi]; rfl

structure RangeOK (x : Reach) (days : Int) : Prop where
  p1 : 0 ≤ x.pass
  p2 : x.pass ≤ 1000
  t1 : 0 ≤ x.takes
  t2 : x.takes ≤ 10
  e1 : 1 ≤ x.every
  e2 : x.every ≤ 10
  w1 : 1 ≤ x.lo
  w2 : x.hi ≤ days
  w3 : x.lo ≤ x.hi
  l1 : 0 ≤ x.logs
  l2 : x.logs ≤ 10000
  r1 : 1 ≤ x.ready
  r2 : x.ready ≤ days
theorem range_ok {x : Reach} {days : Int} : ranged x days = true ↔ RangeOK x days := by
  unfold ranged
  rw [decide_eq_true_eq]
  exact ⟨fun ⟨a, b, c, d, e, f, g, h, i, j, k, l, m⟩ => ⟨a, b, c, d, e, f, g, h, i, j, k, l, m⟩, fun ⟨a, b, c, d, e, f, g, h, i, j, k, l, m⟩ => ⟨a, b, c, d, e, f, g, h, i, j, k, l, m⟩⟩
theorem Valid.ok {R : River} (hv : Valid R) {i : Nat} (hi : i < R.rs.length) : RangeOK (R.at i) R.days := by
  rw [hv.at hi]; exact range_ok.1 (hv.rg _ (List.getElem_mem hi))
theorem Valid.dn {R : River} (hv : Valid R) {i : Nat} (hi : i < R.rs.length) : downOK R.rs.length i (R.at i) := by
  rw [hv.at hi]; exact hv.down i _ (List.getElem?_eq_getElem hi)

/-- What the sums need: nothing is negative. -/
structure NonNeg (R : River) : Prop where
  pass : ∀ i, 0 ≤ (R.at i).pass
  logs : ∀ i, 0 ≤ (R.at i).logs
theorem Valid.nonneg {R : River} (hv : Valid R) : NonNeg R where
  pass i := by
    by_cases h : i < R.rs.length
    · exact (hv.ok h).p1
    · rw [at_out (by omega)]; exact Int.le_refl _
  logs i := by
    by_cases h : i < R.rs.length
    · exact (hv.ok h).l1
    · rw [at_out (by omega)]; exact Int.le_refl _

/-- Entered: from nothing on, more from day to day, never more than have come. -/
theorem ent_facts {R : River} (hn : NonNeg R) : ∀ i d, 0 ≤ ent R i d ∧ ent R i d ≤ ent R i (d + 1) ∧ ent R i d ≤ com R i d ∧ com R i d ≤ com R i (d + 1) := by
  intro i
  induction i using Nat.strongRecOn with
  | _ i ih =>
    have hmono : ∀ u, u < i → ∀ a b, a ≤ b → ent R u a ≤ ent R u b := by
      intro u hu a b hab
      induction hab with
      | refl => exact Int.le_refl _
      | step _ ih2 => exact Int.le_trans ih2 (ih u hu _).2.1
    have hc : ∀ d, com R i d ≤ com R i (d + 1) := by
      intro d
      unfold com
      have h1 : (if (R.at i).ready ≤ (d : Int) then (R.at i).logs else 0) ≤ (if (R.at i).ready ≤ ((d + 1 : Nat) : Int) then (R.at i).logs else 0) := by
        have := hn.logs i
        split <;> split <;> omega
      have h2 := sumTo_le (f := fun u => if (R.at u).down = (i : Int) then ent R u (d - (R.at u).takes.toNat) else 0) (g := fun u => if (R.at u).down = (i : Int) then ent R u (d + 1 - (R.at u).takes.toNat) else 0) (k := i) (fun u hu => by
        split
        · exact hmono u hu _ _ (by omega)
        · exact Int.le_refl _)
      omega
    have hc0 : 0 ≤ com R i 0 := by
      unfold com
      have h1 : 0 ≤ (if (R.at i).ready ≤ ((0 : Nat) : Int) then (R.at i).logs else 0) := by
        have := hn.logs i
        split <;> omega
      have h2 := sumTo_nonneg (f := fun u => if (R.at u).down = (i : Int) then ent R u (0 - (R.at u).takes.toNat) else 0) (k := i) (fun u hu => by
        split
        · exact (ih u hu _).1
        · exact Int.le_refl _)
      omega
    intro d
    have key : 0 ≤ ent R i d ∧ ent R i d ≤ com R i d := by
      induction d with
      | zero => rw [ent_zero]; exact ⟨Int.le_refl _, hc0⟩
      | succ d ihd =>
        rw [ent_succ]
        have := hc d
        have := hn.pass i
        split <;> omega
    refine ⟨key.1, ?_, key.2, hc d⟩
    rw [ent_succ]
    have := hc d
    have := hn.pass i
    split <;> omega
theorem ent_mono {R : River} (hn : NonNeg R) {i a b : Nat} (h : a ≤ b) : ent R i a ≤ ent R i b := by
  induction h with
  | refl => exact Int.le_refl _
  | step _ ih => exact Int.le_trans ih (ent_facts hn i _).2.1
/-- How many at most. -/
theorem com_bound {R : River} (hv : Valid R) : ∀ i, i < R.rs.length → ∀ d, com R i d ≤ 10000 * 2 ^ i := by
  have hn := hv.nonneg
  have hs : ∀ k, sumTo (fun u => 10000 * 2 ^ u) k + 10000 = 10000 * 2 ^ k := by
    intro k
    induction k with
    | zero => rfl
    | succ k ih => show sumTo _ k + 10000 * 2 ^ k + 10000 = _; rw [Int.pow_succ]; omega
  intro i
  induction i using Nat.strongRecOn with
  | _ i ih =>
    intro hi d
    unfold com
    have h1 : (if (R.at i).ready ≤ (d : Int) then (R.at i).logs else 0) ≤ 10000 := by
      have := (hv.ok hi).l2
      split <;> omega
    have h2 := sumTo_le (f := fun u => if (R.at u).down = (i : Int) then ent R u (d - (R.at u).takes.toNat) else 0) (g := fun u => 10000 * 2 ^ u) (k := i) (fun u hu => by
      have hp : (0 : Int) ≤ 2 ^ u := Int.le_of_lt (Int.pow_pos (by omega))
      split
      · exact Int.le_trans (ent_facts hn u _).2.2.1 (ih u hu (by omega) _)
      · omega)
    have := hs i
    omega
theorem com_le {R : River} (hv : Valid R) {i : Nat} (hi : i < R.rs.length) (d : Nat) : com R i d ≤ 1280000 := by
  have h1 := com_bound hv i hi d
  have h2 := hv.l2
  have h3 : i = 0 ∨ i = 1 ∨ i = 2 ∨ i = 3 ∨ i = 4 ∨ i = 5 ∨ i = 6 ∨ i = 7 := by omega
  rcases h3 with rfl | rfl | rfl | rfl | rfl | rfl | rfl | rfl <;> omega
theorem ent_le {R : River} (hv : Valid R) {i : Nat} (hi : i < R.rs.length) (d : Nat) : ent R i d ≤ 1280000 := Int.le_trans (ent_facts hv.nonneg i d).2.2.1 (com_le hv hi d)
theorem ent_nn {R : River} (hv : Valid R) (i d : Nat) : 0 ≤ ent R i d := (ent_facts hv.nonneg i d).1
end Go.AM
/- What is on its way: the logs that will have come above a reach, or to the boom, on a day. -/
namespace Go.AM

/-- How many enter a reach on a day. -/
def fl1 (R : River) (u d : Nat) : Int := ent R u d - ent R u (d - 1)
def part (R : River) (t i u d : Nat) : Int := if (d : Int) < t + (R.at u).takes ∨ ((d : Int) = t + (R.at u).takes ∧ u < i) then fl1 R u (d - (R.at u).takes.toNat) else 0
/-- Ahead of reach i on day t. -/
def cmf (R : River) (t i : Nat) (j : Int) (d : Nat) : Int :=
  (if 0 ≤ j ∧ j < R.rs.length ∧ (R.at j.toNat).ready = d then (R.at j.toNat).logs else 0) + sumTo (fun u => if (R.at u).down = j then part R t i u d else 0) R.rs.length

theorem ent_step (R : River) (i : Nat) {t : Nat} (ht : 1 ≤ t) : ent R i t = if isOpen (R.at i) t then ent R i (t - 1) + min (R.at i).pass (com R i t - ent R i (t - 1)) else ent R i (t - 1) := by
  obtain ⟨d, rfl⟩ : ∃ d, t = d + 1 := ⟨t - 1, by omega⟩
  rw [ent_succ, Nat.add_sub_cancel, Int.natCast_add, Int.natCast_one]
  split <;> omega
theorem bom_zero (R : River) : bom R 0 = 0 := sumTo_zero fun u _ => by simp [ent_zero]
theorem com_zero {R : River} (hv : Valid R) {i : Nat} (hi : i < R.rs.length) : com R i 0 = 0 := by
  unfold com
  rw [if_neg (by have := (hv.ok hi).r1; omega), sumTo_zero fun u _ => by simp [ent_zero]]; rfl

theorem cm_now {R : River} (hv : Valid R) {i t : Nat} (hi : i < R.rs.length) (ht : 1 ≤ t) : com R i (t - 1) + cmf R t i i t = com R i t := by
  have hs : ∀ u, (if (R.at u).down = (i : Int) then part R t i u t else 0) = (if (R.at u).down = (i : Int) then ent R u (t - (R.at u).takes.toNat) else 0) - (if (R.at u).down = (i : Int) then ent R u (t - 1 - (R.at u).takes.toNat) else 0) := by
    intro u
    by_cases hd : (R.at u).down = (i : Int)
    · have hu : u < R.rs.length := by
        rcases Nat.lt_or_ge u R.rs.length with h | h
        · exact h
        · rw [at_out h] at hd
          have h0 : (-5 : Int) = (i : Int) := hd
          omega
      have hui : u < i := by
        rcases hv.dn hu with h | ⟨h, _⟩
        · omega
        · rw [hd] at h; omega
      have ht0 := (hv.ok hu).t1
      simp only [hd, if_true]
      unfold part
      rw [if_pos (by omega)]
      unfold fl1
      rw [show t - (R.at u).takes.toNat - 1 = t - 1 - (R.at u).takes.toNat by omega]
    · simp [hd]
  have hcut : ∀ f : Nat → Int, sumTo (fun u => if (R.at u).down = (i : Int) then f u else 0) R.rs.length = sumTo (fun u => if (R.at u).down = (i : Int) then f u else 0) i := fun f =>
    sumTo_cut (by omega) fun u h1 h2 => by
      rw [if_neg]
      intro hd
      rcases hv.dn h2 with h | ⟨h, _⟩
      · omega
      · rw [hd] at h; omega
  unfold cmf com
  rw [hcut, sumTo_congr (fun u _ => hs u), sumTo_sub]
  have h1 : ((i : Int).toNat) = i := by simp
  rw [h1]
  have : (if (0 : Int) ≤ (i : Int) ∧ (i : Int) < R.rs.length ∧ (R.at i).ready = t then (R.at i).logs else 0) = (if (R.at i).ready ≤ (t : Int) then (R.at i).logs else 0) - (if (R.at i).ready ≤ ((t - 1 : Nat) : Int) then (R.at i).logs else 0) := by
    by_cases h : (R.at i).ready = t
    · rw [if_pos ⟨by omega, by omega, h⟩, if_pos (by omega), if_neg (by omega)]; omega
    · rw [if_neg (fun hh => h hh.2.2)]
      split <;> split <;> omega
  rw [this]; omega
theorem cm_step {R : River} {t i : Nat} (hi : i < R.rs.length) (h0 : 0 ≤ (R.at i).takes) (j : Int) (d : Nat) :
    cmf R t (i + 1) j d = cmf R t i j d + (if (R.at i).down = j ∧ (d : Int) = t + (R.at i).takes then ent R i t - ent R i (t - 1) else 0) := by
  unfold cmf
  rw [sumTo_one (f := fun u => if (R.at u).down = j then part R t (i + 1) u d else 0) (g := fun u => if (R.at u).down = j then part R t i u d else 0) (i := i) hi fun u _ hne => ?_]
  · have : (if (R.at i).down = j then part R t (i + 1) i d else 0) - (if (R.at i).down = j then part R t i i d else 0) = (if (R.at i).down = j ∧ (d : Int) = t + (R.at i).takes then ent R i t - ent R i (t - 1) else 0) := by
      by_cases hd : (R.at i).down = j
      · simp only [hd, if_true, true_and]
        unfold part
        by_cases he : (d : Int) = t + (R.at i).takes
        · rw [if_pos (by omega), if_neg (by omega), if_pos he]
          unfold fl1
          rw [show d - (R.at i).takes.toNat = t by omega]; omega
        · rw [if_neg he]
          by_cases hl : (d : Int) < t + (R.at i).takes
          · rw [if_pos (.inl hl), if_pos (.inl hl)]; omega
          · rw [if_neg (by omega), if_neg (by omega)]; rfl
      · simp [hd]
    omega
  · have : part R t (i + 1) u d = part R t i u d := by
      unfold part
      by_cases h : (d : Int) < t + (R.at u).takes
      · rw [if_pos (.inl h), if_pos (.inl h)]
      · by_cases h2 : (d : Int) = t + (R.at u).takes ∧ u < i
        · rw [if_pos (by omega), if_pos (by omega)]
        · rw [if_neg (by omega), if_neg (by omega)]
    rw [this]
theorem cm_next {R : River} (t : Nat) (j : Int) (d : Nat) : cmf R (t + 1) 0 j d = cmf R t R.rs.length j d := by
  unfold cmf
  congr 1
  refine sumTo_congr fun u hu => ?_
  split
  · unfold part
    by_cases h : (d : Int) < t + (R.at u).takes + 1
    · rw [if_pos (by omega), if_pos (by omega)]
    · rw [if_neg (by omega), if_neg (by omega)]
  · rfl
theorem cm_first {R : River} (j : Int) {d : Nat} : cmf R 1 0 j d = (if 0 ≤ j ∧ j < R.rs.length ∧ (R.at j.toNat).ready = d then (R.at j.toNat).logs else 0) := by
  unfold cmf
  rw [sumTo_zero fun u hu => ?_, Int.add_zero]
  split
  · unfold part
    split
    · rename_i h
      have : d - (R.at u).takes.toNat = 0 := by omega
      rw [this]; unfold fl1; simp
    · rfl
  · rfl
theorem cm_boom {R : River} (hv : Valid R) {t : Nat} (ht : 1 ≤ t) : bom R (t - 1) + cmf R t R.rs.length (-1) t = bom R t := by
  unfold cmf
  rw [if_neg (by omega), Int.zero_add]
  unfold bom
  rw [← sumTo_add]
  refine sumTo_congr fun u hu => ?_
  have ht0 := (hv.ok hu).t1
  by_cases hd : (R.at u).down = -1
  · simp only [hd, if_true]
    unfold part
    rw [if_pos (by omega)]
    unfold fl1
    rw [show t - (R.at u).takes.toNat - 1 = t - 1 - (R.at u).takes.toNat by omega]; omega
  · simp [hd]
theorem sum8 {f : Nat → Int} {B : Int} {k : Nat} (hB : 0 ≤ B) (hk : k ≤ 8) (h : ∀ u, u < k → f u ≤ B) : sumTo f k ≤ 8 * B := by
  have h1 := sumTo_le (g := fun _ => B) h
  have h2 : ∀ k : Nat, sumTo (fun _ => B) k = k * B := by
    intro k
    induction k with
    | zero => simp [sumTo]
    | succ k ih => show sumTo _ k + B = _; rw [ih, Int.natCast_add, Int.add_mul]; simp
  rw [h2] at h1
  have h3 : (k : Int) * B ≤ 8 * B := Int.mul_le_mul_of_nonneg_right (by omega) hB
  omega
theorem cm_le {R : River} (hv : Valid R) (t i : Nat) (j : Int) (d : Nat) : 0 ≤ cmf R t i j d ∧ cmf R t i j d ≤ 11000000 := by
  have own : 0 ≤ (if 0 ≤ j ∧ j < R.rs.length ∧ (R.at j.toNat).ready = d then (R.at j.toNat).logs else 0) ∧ (if 0 ≤ j ∧ j < R.rs.length ∧ (R.at j.toNat).ready = d then (R.at j.toNat).logs else 0) ≤ 10000 := by
    split
    · rename_i h
      have := hv.ok (i := j.toNat) (by omega)
      exact ⟨this.l1, this.l2⟩
    · omega
  have hp : ∀ u, u < R.rs.length → 0 ≤ (if (R.at u).down = j then part R t i u d else 0) ∧ (if (R.at u).down = j then part R t i u d else 0) ≤ 1280000 := by
    intro u hu
    split
    · unfold part
      split
      · unfold fl1
        have h1 := ent_le hv hu (d - (R.at u).takes.toNat)
        have h2 := ent_nn hv u (d - (R.at u).takes.toNat - 1)
        have h3 := ent_mono hv.nonneg (i := u) (show d - (R.at u).takes.toNat - 1 ≤ d - (R.at u).takes.toNat by omega)
        omega
      · omega
    · omega
  have h1 := sumTo_nonneg (f := fun u => if (R.at u).down = j then part R t i u d else 0) fun u hu => (hp u hu).1
  have h2 := sum8 (f := fun u => if (R.at u).down = j then part R t i u d else 0) (B := 1280000) (by omega) hv.l2 fun u hu => (hp u hu).2
  unfold cmf
  omega
theorem bom_le {R : River} (hv : Valid R) (d : Nat) : 0 ≤ bom R d ∧ bom R d ≤ 10240000 := by
  unfold bom
  have h1 := sumTo_nonneg (f := fun u => if (R.at u).down = -1 then ent R u (d - (R.at u).takes.toNat) else 0) (k := R.rs.length) fun u hu => by
    split
    · exact ent_nn hv u _
    · exact Int.le_refl _
  have h2 := sum8 (f := fun u => if (R.at u).down = -1 then ent R u (d - (R.at u).takes.toNat) else 0) (B := 1280000) (by omega) hv.l2 fun u hu => by
    split
    · exact ent_le hv hu _
    · omega
  omega
end Go.AM
/- A river with another reach; no fewer logs by a better one. -/
namespace Go.AM

def River.set (R : River) (i : Nat) (x : Reach) : River := ⟨R.days, R.rs.set i x⟩
theorem set_len (R : River) (i : Nat) (x : Reach) : (R.set i x).rs.length = R.rs.length := by simp [River.set]
theorem set_at {R : River} {i : Nat} {x : Reach} (hi : i < R.rs.length) (k : Nat) : (R.set i x).at k = if k = i then x else R.at k := by
  unfold River.at River.set
  rw [List.getD_eq_getElem?_getD, List.getElem?_set, List.getD_eq_getElem?_getD]
  by_cases c : i = k
  · subst c; simp [hi]
  · simp [c, Ne.symm c]
theorem valid_of {R : River} (d1 : 1 ≤ R.days) (d2 : R.days ≤ 40) (l1 : 1 ≤ R.rs.length) (l2 : R.rs.length ≤ 8) (h : ∀ i, i < R.rs.length → downOK R.rs.length i (R.at i) ∧ RangeOK (R.at i) R.days) : Valid R := by
  refine ⟨d1, d2, l1, l2, fun i r hr => ?_, fun r hr => ?_⟩
  · have := h i (List.getElem?_eq_some_iff.1 hr).1
    rw [at_of hr] at this; exact this.1
  · obtain ⟨i, hi⟩ := List.getElem?_of_mem hr
    have := h i (List.getElem?_eq_some_iff.1 hi).1
    rw [at_of hi] at this; exact range_ok.2 this.2
theorem set_valid {R : River} (hv : Valid R) {i : Nat} {x : Reach} (hi : i < R.rs.length) (hd : x.down = (R.at i).down) (hx : RangeOK x R.days) : Valid (R.set i x) := by
  refine valid_of hv.d1 hv.d2 (by rw [set_len]; exact hv.l1) (by rw [set_len]; exact hv.l2) fun k hk => ?_
  rw [set_len] at hk
  rw [set_at hi, set_len]
  by_cases c : k = i
  · subst c
    rw [if_pos rfl]
    refine ⟨?_, hx⟩
    have := hv.dn hi
    unfold downOK at this ⊢
    rw [hd]; exact this
  · rw [if_neg c]; exact ⟨hv.dn hk, hv.ok hk⟩

/-- A reach that lets no less by. -/
structure Better (x y : Reach) : Prop where
  down : x.down = y.down
  pass : x.pass ≤ y.pass
  takes : y.takes ≤ x.takes
  logs : x.logs ≤ y.logs
  logs0 : 0 ≤ x.logs
  ready : y.ready ≤ x.ready
  opn : ∀ d : Int, isOpen x d = true → isOpen y d = true
theorem Better.refl {x : Reach} (h : 0 ≤ x.logs) : Better x x := ⟨rfl, Int.le_refl _, Int.le_refl _, Int.le_refl _, h, Int.le_refl _, fun _ h => h⟩
theorem ent_better {R R' : River} (hn : NonNeg R) (hn' : NonNeg R') (h : ∀ i, Better (R.at i) (R'.at i)) : ∀ i d, ent R i d ≤ ent R' i d ∧ com R i d ≤ com R' i d := by
  intro i
  induction i using Nat.strongRecOn with
  | _ i ih =>
    have hc : ∀ d, com R i d ≤ com R' i d := by
      intro d
      unfold com
      have b := h i
      have h1 : (if (R.at i).ready ≤ (d : Int) then (R.at i).logs else 0) ≤ (if (R'.at i).ready ≤ (d : Int) then (R'.at i).logs else 0) := by
        have := b.logs
        have := b.logs0
        have := b.ready
        split <;> split <;> omega
      have h2 := sumTo_le (f := fun u => if (R.at u).down = (i : Int) then ent R u (d - (R.at u).takes.toNat) else 0) (g := fun u => if (R'.at u).down = (i : Int) then ent R' u (d - (R'.at u).takes.toNat) else 0) (k := i) (fun u hu => by
        rw [(h u).down]
        split
        · have := (h u).takes
          exact Int.le_trans (ih u hu _).1 (ent_mono hn' (by omega))
        · exact Int.le_refl _)
      omega
    intro d
    refine ⟨?_, hc d⟩
    induction d with
    | zero => rw [ent_zero, ent_zero]; exact Int.le_refl _
    | succ d ihd =>
      have b := h i
      by_cases q : isOpen (R.at i) ((d : Int) + 1) = true
      · rw [ent_succ, ent_succ, if_pos q, if_pos (b.opn _ q)]
        have := hc (d + 1)
        have := b.pass
        omega
      · rw [ent_succ, if_neg q]
        exact Int.le_trans ihd (ent_facts hn' i d).2.1
theorem bom_better {R R' : River} (hn : NonNeg R) (hn' : NonNeg R') (hl : R.rs.length = R'.rs.length) (h : ∀ i, Better (R.at i) (R'.at i)) (d : Nat) : bom R d ≤ bom R' d := by
  unfold bom
  rw [← hl]
  refine sumTo_le fun u hu => ?_
  rw [(h u).down]
  split
  · have := (h u).takes
    exact Int.le_trans (ent_better hn hn' h u _).1 (ent_mono hn' (by omega))
  · exact Int.le_refl _
theorem set_better {R : River} (hv : Valid R) {i : Nat} {x : Reach} (hi : i < R.rs.length) (hb : Better (R.at i) x) (k : Nat) : Better (R.at k) ((R.set i x).at k) := by
  rw [set_at hi]
  by_cases c : k = i
  · subst c; rw [if_pos rfl]; exact hb
  · rw [if_neg c]; exact Better.refl (hv.nonneg.logs k)
end Go.AM
/- The year of a river, before its first day. -/
namespace Go.AM
open Go
noncomputable section
variable {tm tm' : T AV} {σ σ' : AS} {h h' : T AObj} {n n' fl : Nat} {v : AV}

/-- The rows of a plan: each in a block of its own kind; what they hold is left open. -/
structure PlanOK (h : T AObj) (lo hi : Nat) (P : AV) (len D : Nat) (pb : Nat) (rb : Nat → Nat) : Prop where
  grow : GrowSl h 40 1 P len ((List.range len).map fun i => .slc (some (rb i, 0)) D D 2 .exact)
  blk : ∀ b, blkOf P = some b → b = pb ∧ lo ≤ pb ∧ pb < hi
  row : ∀ i, i < len → lo ≤ rb i ∧ rb i < hi ∧ rb i ≠ pb ∧ ∃ l, h.get (rb i) = some (.cells l false) ∧ l.length = D ∧ l.all AV.scalar = true
/-- The thirteen cells of a year. -/
def yearCells (days : Int) (sl P C B : AV) (g : List Int) : List AV := [.int .i64 days, sl, P, C, B] ++ ints g

theorem newYear_L0 {R : River} {D : Nat} {sl C B : AV} {m0 : Nat} (hd : R.days = (D : Int)) (hD : D ≤ 40) (hlen : R.rs.length ≤ 8) (hm : n + 4 ≤ m0) (hfl : fl ≤ n)
    (hf : Fresh h m0) (hbox : h.get n = some (.cells [.int .i64 R.days, sl] false)) (hy : h.get (n + 3) = some (.cells (yearCells R.days sl (.slc none 0 0 40 .exact) C B [0, 0, 0, 0, 0, 0, 0, 0]) false))
    (h1 : tm.get 1 = some (.ptr (some (n, 0)))) (h3 : tm.get 3 = some (.ptr (some (n + 3, 0)))) (h12 : tm.get 12 = some (.int .i64 R.rs.length)) (h13 : tm.get 13 = some (.int .i64 0)) :
    Done ((lim ft (oraOf 10 true)).exec (.loop a46_L0) tm ⟨h, m0, fl⟩) fun x tm' σ' => x = .exit 0 ∧ tm'.get 3 = some (.ptr (some (n + 3, 0))) ∧ ∃ h' m' P pb rb, σ' = ⟨h', m', fl⟩ ∧ m0 ≤ m' ∧ Fresh h' m' ∧ Agree (n + 3) h h' ∧
      h'.get (n + 3) = some (.cells (yearCells R.days sl P C B [0, 0, 0, 0, 0, 0, 0, 0]) false) ∧ PlanOK h' (n + 4) m' P R.rs.length D pb rb := by
  refine loop_up (fun k tm σ => tm.get 1 = some (.ptr (some (n, 0))) ∧ tm.get 3 = some (.ptr (some (n + 3, 0))) ∧ tm.get 12 = some (.int .i64 R.rs.length) ∧ tm.get 13 = some (.int .i64 (k : Int)) ∧
      ∃ h' m' P pb rb, σ = ⟨h', m', fl⟩ ∧ m0 ≤ m' ∧ Fresh h' m' ∧ Agree (n + 3) h h' ∧ h'.get (n + 3) = some (.cells (yearCells R.days sl P C B [0, 0, 0, 0, 0, 0, 0, 0]) false) ∧ PlanOK h' (n + 4) m' P k D pb rb) _ R.rs.length ?_ ?_
    R.rs.length 0 tm _ (by simp) ⟨h1, h3, h12, h13, h, m0, _, 0, fun _ => 0, rfl, Nat.le_refl _, hf, Agree.refl, hy, ⟨GrowSl.nil, fun b e => (by cases e), fun i e => (by omega)⟩⟩
  · intro k tm σ hk ⟨h1, h3, h12, h13, h', m', P, pb, rb, hσ, hm', hf', ha, hy', hP⟩ S hI hQ
    subst hσ
    have hbox' : h'.get n = some (.cells [.int .i64 R.days, sl] false) := by rw [ha n (by omega)]; exact hbox
    have hlt : ((k : Int) < (R.rs.length : Int)) := by omega
    have hw : wrapF .i64 ((k : Int) + 1) = ((k + 1 : Nat) : Int) := by rw [wrap64 (by omega) (by omega)]; omega
    have hD8 : D * 8 ≤ 70368744177664 := by omega
    have hfn : fl ≤ n + 3 := by omega
    have e1 : (n + 3 = m') = False := by simp; omega
    have e2 : (n + 3 = m' + 1) = False := by simp; omega
    have e3 : (n = m') = False := by simp; omega
    have hPb : ∀ b, blkOf P = some b → b < m' := fun b hb => hP.grow.lt hf' hb
    have hPlo : ∀ b, blkOf P = some b → n + 4 ≤ b := fun b hb => by have := hP.blk b hb; omega
    have g2 : GrowSl ((h'.put m' (some (.cells (sizedZeros [.int .i64 0] D) false))).put (m' + 1) (some (.cells [.slc (some (m', 0)) D D 2 .exact] false))) 40 1 P k ((List.range k).map fun i => .slc (some (rb i, 0)) D D 2 .exact) :=
      (hP.grow.put fun e => by have := hPb _ e; omega).put fun e => by have := hPb _ e; omega
    have f2 : Fresh ((h'.put m' (some (.cells (sizedZeros [.int .i64 0] D) false))).put (m' + 1) (some (.cells [.slc (some (m', 0)) D D 2 .exact] false))) (m' + 2) :=
      (hf'.put (n' := m' + 1) (by omega) (by omega)).put (by omega) (by omega)
    obtain ⟨h2, ea, eg, ef, ek⟩ := g2.append (fl := fl) (bytes := 24) (k := 1) (bx := m' + 1) (ox := 0) (c := 1) (e := 40) (ck := .exact) (new := [.slc (some (m', 0)) D D 2 .exact]) (fun b hb => by have := hPlo b hb; omega) f2
      (by rw [hget_eq, rdk_s]; rfl) (by omega) (by omega) rfl rfl
    have hn3 : blkOf P ≠ some (n + 3) := fun e => by have := hPlo _ e; omega
    have ey : h2.get (n + 3) = some (.cells (yearCells R.days sl P C B [0, 0, 0, 0, 0, 0, 0, 0]) false) := by
      rw [ek _ (by omega) hn3, hget_ne (by omega), hget_ne (by omega)]; exact hy'
    simp only [yearCells, ints, List.map_cons, List.map_nil, List.cons_append, List.nil_append] at hy' ey
    rw [hd] at hbox' hy' ey
    simp -implicitDefEqProofs only [a46_L0, ev0, ev1, ev2, ev3, ev4, ev5, ev6, ev7, evx, if_true, if_false, Nat.reduceEqDiff, Nat.reduceAdd, Nat.reduceMul, Nat.reduceSub, ↓reduceIte, reduceCtorEq, Nat.reduceLeDiff, Nat.reduceLT, Int.reduceLE, Int.reduceLT, Int.reduceEq, Int.reduceNeg, Int.reduceToNat, h1, h3, h12, h13, hlt, e1, e2, e3, hbox', hy', hd, hD8, ea, ey, hfn, hw]
    have hne : ∀ x, x < m' → blkOf P ≠ some x → h2.get x = h'.get x := fun x hx hb => by
      rw [ek _ (by omega) hb, hget_ne (by omega), hget_ne (by omega)]
    refine hI _ _ ⟨by simp -implicitDefEqProofs only [ev0, ev1, ev2, ev3, ev4, ev5, ev6, ev7, evx, if_true, if_false, Nat.reduceEqDiff, Nat.reduceAdd, Nat.reduceMul, Nat.reduceSub, ↓reduceIte, reduceCtorEq, Nat.reduceLeDiff, Nat.reduceLT, Int.reduceLE, Int.reduceLT, Int.reduceEq, Int.reduceNeg, Int.reduceToNat, h1], by simp -implicitDefEqProofs only [ev0, ev1, ev2, ev3, ev4, ev5, ev6, ev7, evx, if_true, if_false, Nat.reduceEqDiff, Nat.reduceAdd, Nat.reduceMul, Nat.reduceSub, ↓reduceIte, reduceCtorEq, Nat.reduceLeDiff, Nat.reduceLT, Int.reduceLE, Int.reduceLT, Int.reduceEq, Int.reduceNeg, Int.reduceToNat, h3], by simp -implicitDefEqProofs only [ev0, ev1, ev2, ev3, ev4, ev5, ev6, ev7, evx, if_true, if_false, Nat.reduceEqDiff, Nat.reduceAdd, Nat.reduceMul, Nat.reduceSub, ↓reduceIte, reduceCtorEq, Nat.reduceLeDiff, Nat.reduceLT, Int.reduceLE, Int.reduceLT, Int.reduceEq, Int.reduceNeg, Int.reduceToNat, h12], by simp -implicitDefEqProofs only [ev0, ev1, ev2, ev3, ev4, ev5, ev6, ev7, evx, if_true, if_false, Nat.reduceEqDiff, Nat.reduceAdd, Nat.reduceMul, Nat.reduceSub, ↓reduceIte, reduceCtorEq, Nat.reduceLeDiff, Nat.reduceLT, Int.reduceLE, Int.reduceLT, Int.reduceEq, Int.reduceNeg, Int.reduceToNat], _, m' + 3, .slc (some (m' + 2, 0)) (k + 1) (k + 1) 40 .tail, m' + 2, fun i => if i = k then m' else rb i, rfl, by omega, ef.put (by omega) (by omega), ?_, ?_, ?_⟩
    · intro b hb
      rw [hget_ne (by omega), hne b (by omega) (fun e => by have := hPlo _ e; omega)]
      exact ha b hb
    · rw [hget_eq, hd]; simp [yearCells, ints]
    · refine ⟨?_, fun b hb => ?_, fun i hi => ?_⟩
      · have e : ((List.range (k + 1)).map fun i => AV.slc (some ((if i = k then m' else rb i), 0)) D D 2 .exact) = ((List.range k).map fun i => AV.slc (some (rb i, 0)) D D 2 .exact) ++ [.slc (some (m', 0)) D D 2 .exact] := by
          rw [List.range_succ, List.map_append]
          congr 1
          · exact List.map_congr_left fun i hi => by rw [if_neg (by have := List.mem_range.1 hi; omega)]
          · simp
        rw [e]
        exact eg.put (fun e => by cases e; omega)
      · cases hb; exact ⟨rfl, by omega, by omega⟩
      · by_cases c : i = k
        · simp only [c, if_true]
          refine ⟨by omega, by omega, by omega, sizedZeros [.int .i64 0] D, ?_, by rw [zeros_one]; simp, ?_⟩
          · rw [hget_ne (by omega), ek _ (by omega) (fun e => by have := hPb _ e; omega), hget_ne (by omega), hget_eq]
          · rw [zeros_one]; simp [AV.scalar]
        · simp only [c, if_false]
          obtain ⟨r1, r2, r3, l, r4, r5, r6⟩ := hP.row i (by omega)
          refine ⟨r1, by omega, by omega, l, ?_, r5, r6⟩
          rw [hget_ne (by omega), hne _ r2 (fun e => by have := (hP.blk _ e).1; omega)]
          exact r4
  · intro tm σ ⟨h1, h3, h12, h13, h', m', P, pb, rb, hσ, hm', hf', ha, hy', hP⟩ S hQ
    subst hσ
    have hlt : ¬ ((R.rs.length : Int) < (R.rs.length : Int)) := by omega
    simp -implicitDefEqProofs only [a46_L0, ev0, ev1, ev2, ev3, ev4, ev5, ev6, ev7, evx, if_true, if_false, Nat.reduceEqDiff, Nat.reduceAdd, Nat.reduceMul, Nat.reduceSub, ↓reduceIte, reduceCtorEq, Nat.reduceLeDiff, Nat.reduceLT, Int.reduceLE, Int.reduceLT, Int.reduceEq, Int.reduceNeg, Int.reduceToNat, h12, h13, hlt]
    exact hQ _ _ _ (by simp) ⟨rfl, by simp -implicitDefEqProofs only [ev0, ev1, ev2, ev3, ev4, ev5, ev6, ev7, evx, if_true, if_false, Nat.reduceEqDiff, Nat.reduceAdd, Nat.reduceMul, Nat.reduceSub, ↓reduceIte, reduceCtorEq, Nat.reduceLeDiff, Nat.reduceLT, Int.reduceLE, Int.reduceLT, Int.reduceEq, Int.reduceNeg, Int.reduceToNat, h3], h', m', P, pb, rb, rfl, hm', hf', ha, hy', hP⟩
/-- What newYear makes: a year whose number is y. -/
structure NewYear (n : Nat) (h h' : T AObj) (n' : Nat) (R : River) (D y : Nat) (sl P : AV) (pb : Nat) (rb : Nat → Nat) : Prop where
  yb : y = n + 3
  le : n + 4 ≤ n'
  fresh : Fresh h' n'
  agree : Agree n h h'
  year : h'.get y = some (.cells (yearCells R.days sl P (.slc (some (n + 1, 0)) 1 1 64 .exact) (.slc (some (n + 2, 0)) 1 1 2 .exact) [0, 0, 0, 0, 0, 0, 0, 0]) false)
  com : h'.get (n + 1) = some (.cells (ints [0, 0, 0, 0, 0, 0, 0, 0]) false)
  boom : h'.get (n + 2) = some (.cells (ints [0]) false)
  plan : PlanOK h' (n + 4) n' P R.rs.length D pb rb
theorem newYear_call {R : River} {D : Nat} {sl : AV} (hd : R.days = (D : Int)) (hv : Valid R) (hs : SlV h 8 (some 8) sl (R.rs.map Reach.av)) (hf : Fresh h n) (hfl : fl ≤ n) :
    ∃ v σ', (lim ft (oraOf 10 true)).call (.fn 46 [] []) [.agg [.int .i64 R.days, sl]] ⟨h, n, fl⟩ = some (v, σ') ∧ ∃ h' n' P pb rb, v = .ptr (some (n + 3, 0)) ∧ σ' = ⟨h', n', fl⟩ ∧ NewYear n h h' n' R D (n + 3) sl P pb rb := by
  obtain ⟨a, c, e, ck, rfl⟩ := hs.shape (List.length_map _)
  have h2 := hv.d2
  have h4 := hv.l2
  refine call_done rfl (by rfl) rfl rfl fun S hS => ?_
  simp -implicitDefEqProofs only [a46, ev0, ev1, ev2, ev3, ev4, ev5, ev6, ev7, evx, if_true, if_false, Nat.reduceEqDiff, Nat.reduceAdd, Nat.reduceMul, Nat.reduceSub, ↓reduceIte, reduceCtorEq, Nat.reduceLeDiff, Nat.reduceLT, Int.reduceLE, Int.reduceLT, Int.reduceEq, Int.reduceNeg, Int.reduceToNat, List.replicate]
  generalize hT : T.put _ 13 _ = T0
  generalize hH : T.put _ (n + 3) _ = H
  have fH : Fresh H (n + 4) := by
    subst hH
    exact (((hf.put (n' := n + 1) (by omega) (by omega)).put (n' := n + 2) (by omega) (by omega)).put (n' := n + 3) (by omega) (by omega)).put (by omega) (by omega)
  have g0 : H.get n = some (.cells [.int .i64 R.days, .slc a R.rs.length c e ck] false) := by subst hH; simp -implicitDefEqProofs only [ev0, ev1, ev2, ev3, ev4, ev5, ev6, ev7, evx, if_true, if_false, Nat.reduceEqDiff, Nat.reduceAdd, Nat.reduceMul, Nat.reduceSub, ↓reduceIte, reduceCtorEq, Nat.reduceLeDiff, Nat.reduceLT, Int.reduceLE, Int.reduceLT, Int.reduceEq, Int.reduceNeg, Int.reduceToNat]
  have g1 : H.get (n + 1) = some (.cells (ints [0, 0, 0, 0, 0, 0, 0, 0]) false) := by subst hH; simp -implicitDefEqProofs only [ev0, ev1, ev2, ev3, ev4, ev5, ev6, ev7, evx, if_true, if_false, Nat.reduceEqDiff, Nat.reduceAdd, Nat.reduceMul, Nat.reduceSub, ↓reduceIte, reduceCtorEq, Nat.reduceLeDiff, Nat.reduceLT, Int.reduceLE, Int.reduceLT, Int.reduceEq, Int.reduceNeg, Int.reduceToNat, ints, List.map_cons, List.map_nil]
  have g2 : H.get (n + 2) = some (.cells (ints [0]) false) := by subst hH; simp -implicitDefEqProofs only [ev0, ev1, ev2, ev3, ev4, ev5, ev6, ev7, evx, if_true, if_false, Nat.reduceEqDiff, Nat.reduceAdd, Nat.reduceMul, Nat.reduceSub, ↓reduceIte, reduceCtorEq, Nat.reduceLeDiff, Nat.reduceLT, Int.reduceLE, Int.reduceLT, Int.reduceEq, Int.reduceNeg, Int.reduceToNat, ints, List.map_cons, List.map_nil]
  have g3 : H.get (n + 3) = some (.cells (yearCells R.days (.slc a R.rs.length c e ck) (.slc none 0 0 40 .exact) (.slc (some (n + 1, 0)) 1 1 64 .exact) (.slc (some (n + 2, 0)) 1 1 2 .exact) [0, 0, 0, 0, 0, 0, 0, 0]) false) := by
    subst hH; simp -implicitDefEqProofs only [ev0, ev1, ev2, ev3, ev4, ev5, ev6, ev7, evx, if_true, if_false, Nat.reduceEqDiff, Nat.reduceAdd, Nat.reduceMul, Nat.reduceSub, ↓reduceIte, reduceCtorEq, Nat.reduceLeDiff, Nat.reduceLT, Int.reduceLE, Int.reduceLT, Int.reduceEq, Int.reduceNeg, Int.reduceToNat, yearCells, ints, List.map_cons, List.map_nil]
  have aH : Agree n h H := by
    subst hH
    exact (((Agree.refl.put (Nat.le_refl n)).put (by omega)).put (by omega)).put (by omega)
  obtain ⟨x, tm', σ', e1, rfl, t3, h', m', P, pb, rb, rfl, hm', hf', ha, hy', hP⟩ := newYear_L0 (tm := T0) (fl := fl) (D := D) hd (by omega) h4 (Nat.le_refl _) hfl fH g0 g3 (by subst hT; simp -implicitDefEqProofs only [ev0, ev1, ev2, ev3, ev4, ev5, ev6, ev7, evx, if_true, if_false, Nat.reduceEqDiff, Nat.reduceAdd, Nat.reduceMul, Nat.reduceSub, ↓reduceIte, reduceCtorEq, Nat.reduceLeDiff, Nat.reduceLT, Int.reduceLE, Int.reduceLT, Int.reduceEq, Int.reduceNeg, Int.reduceToNat]) (by subst hT; simp -implicitDefEqProofs only [ev0, ev1, ev2, ev3, ev4, ev5, ev6, ev7, evx, if_true, if_false, Nat.reduceEqDiff, Nat.reduceAdd, Nat.reduceMul, Nat.reduceSub, ↓reduceIte, reduceCtorEq, Nat.reduceLeDiff, Nat.reduceLT, Int.reduceLE, Int.reduceLT, Int.reduceEq, Int.reduceNeg, Int.reduceToNat]) (by subst hT; simp -implicitDefEqProofs only [ev0, ev1, ev2, ev3, ev4, ev5, ev6, ev7, evx, if_true, if_false, Nat.reduceEqDiff, Nat.reduceAdd, Nat.reduceMul, Nat.reduceSub, ↓reduceIte, reduceCtorEq, Nat.reduceLeDiff, Nat.reduceLT, Int.reduceLE, Int.reduceLT, Int.reduceEq, Int.reduceNeg, Int.reduceToNat]) (by subst hT; simp -implicitDefEqProofs only [ev0, ev1, ev2, ev3, ev4, ev5, ev6, ev7, evx, if_true, if_false, Nat.reduceEqDiff, Nat.reduceAdd, Nat.reduceMul, Nat.reduceSub, ↓reduceIte, reduceCtorEq, Nat.reduceLeDiff, Nat.reduceLT, Int.reduceLE, Int.reduceLT, Int.reduceEq, Int.reduceNeg, Int.reduceToNat])
  simp -implicitDefEqProofs only [e1, ev0, ev1, ev2, ev3, ev4, ev5, ev6, ev7, evx, if_true, if_false, Nat.reduceEqDiff, Nat.reduceAdd, Nat.reduceMul, Nat.reduceSub, ↓reduceIte, reduceCtorEq, Nat.reduceLeDiff, Nat.reduceLT, Int.reduceLE, Int.reduceLT, Int.reduceEq, Int.reduceNeg, Int.reduceToNat, t3]
  refine hS _ _ _ (.ptr (some (n + 3, 0))) (by simp) (by simp -implicitDefEqProofs only [a46, ev0, ev1, ev2, ev3, ev4, ev5, ev6, ev7, evx, if_true, if_false, Nat.reduceEqDiff, Nat.reduceAdd, Nat.reduceMul, Nat.reduceSub, ↓reduceIte, reduceCtorEq, Nat.reduceLeDiff, Nat.reduceLT, Int.reduceLE, Int.reduceLT, Int.reduceEq, Int.reduceNeg, Int.reduceToNat]) ⟨h', m', P, pb, rb, rfl, rfl, rfl, by omega, hf', aH.trans (ha.mono (by omega)), hy', ?_, ?_, hP⟩
  · rw [ha _ (by omega)]; exact g1
  · rw [ha _ (by omega)]; exact g2
end
end Go.AM
/- A year's cells; how many may enter; what is on its way at first. -/
namespace Go.AM
open Go
noncomputable section
variable {tm tm' : T AV} {σ σ' : AS} {h h' : T AObj} {n n' fl : Nat} {v : AV} {days : Int} {sl P C B : AV} {g : List Int}

theorem yc0 : (yearCells days sl P C B g)[0]? = some (.int .i64 days) := rfl
theorem yc1 : (yearCells days sl P C B g)[1]? = some sl := rfl
theorem yc2 : (yearCells days sl P C B g)[2]? = some P := rfl
theorem yc3 : (yearCells days sl P C B g)[3]? = some C := rfl
theorem yc4 : (yearCells days sl P C B g)[4]? = some B := rfl
theorem ycg {i : Nat} : (yearCells days sl P C B g)[5 + i]? = (ints g)[i]? := by
  show ([AV.int .i64 days, sl, P, C, B] ++ ints g)[5 + i]? = _
  rw [List.getElem?_append_right (by simp)]; simp
theorem yc_len : (yearCells days sl P C B g).length = 5 + g.length := by
  show ([AV.int .i64 days, sl, P, C, B] ++ ints g).length = _
  rw [List.length_append, ints_len]; rfl
theorem yw3 {c : AV} : wr (yearCells days sl P C B g) 3 [c] = yearCells days sl P c B g := by
  simp only [yearCells, List.cons_append, wr_succ, wr_cons, wr_nil]
theorem yw4 {c : AV} : wr (yearCells days sl P C B g) 4 [c] = yearCells days sl P C c g := by
  simp only [yearCells, List.cons_append, wr_succ, wr_cons, wr_nil]
theorem ywg {i : Nat} {a : Int} (hi : i < g.length) : wr (yearCells days sl P C B g) (5 + i) [.int .i64 a] = yearCells days sl P C B (g.set i a) := by
  rw [Nat.add_comm]
  simp only [yearCells, List.cons_append, List.nil_append, wr_succ, wr_ints hi]
theorem yw5 {vs : List Int} (hl : vs.length = g.length) : wr (yearCells days sl P C B g) 5 (ints vs) = yearCells days sl P C B vs := by
  simp only [yearCells, List.cons_append, List.nil_append, wr_succ]
  have : wr (ints g) 0 (ints vs) = ints vs := by
    unfold wr
    simp [ints_len, hl]
  rw [this]

theorem may_call {R : River} {i y : Nat} {day a : Int} {ro : Bool} (hi : i < R.rs.length) (hs : SlV h 8 (some 8) sl (R.rs.map Reach.av)) (hf : Fresh h n) (hy : h.get y = some (.cells (yearCells days sl P C B g) ro)) :
    (lim ft (oraOf 10 true)).call (.fn 52 [.ptr (some (y, 0))] []) [.int .i64 i, .int .i64 day, .int .i64 a] ⟨h, n, fl⟩ = some (.int .i64 (min (R.at i).pass a), ⟨h, n, fl⟩) := by
  have hx : (R.rs.map Reach.av)[i]? = some (Reach.av (R.at i)) := by rw [List.getElem?_map, List.getElem?_eq_getElem hi, at_of (List.getElem?_eq_getElem hi)]; rfl
  obtain ⟨b, o, c, e, ck, rfl, hb, hk, h1c⟩ := hs.many hf hx (List.length_map _)
  have hd := h1c 1 _ rfl
  refine pure_call rfl (by rfl) rfl rfl rfl ?_
  simp -implicitDefEqProofs only [a52, ev0, ev1, ev2, ev3, ev4, ev5, ev6, ev7, evx, if_true, if_false, Nat.reduceEqDiff, Nat.reduceAdd, Nat.reduceMul, Nat.reduceSub, ↓reduceIte, reduceCtorEq, Nat.reduceLeDiff, Nat.reduceLT, Int.reduceLE, Int.reduceLT, Int.reduceEq, Int.reduceNeg, Int.reduceToNat, hy, yc1, hi, hd]

/-- The first filling of the map. -/
theorem run_L0 {R : River} {y bm m1 : Nat} (hv : Valid R) (hs : SlV h 8 (some 8) sl (R.rs.map Reach.av)) (hf : Fresh h m1) (hfl : fl ≤ bm) (hbm : h.get bm = some (mobj [] 0))
    (h5 : tm.get 5 = some (.map (some bm))) (h24 : tm.get 24 = some sl) (h25 : tm.get 25 = some (.int .i64 R.rs.length)) (h26 : tm.get 26 = some (.int .i64 0))
    (h0 : tm.get 0 = some (.ptr (some (y, 0)))) (h1 : tm.get 1 = some v) :
    Done ((lim ft (oraOf 10 true)).exec (.loop a47_L0) tm ⟨h, m1, fl⟩) fun x tm' σ' => x = .exit 0 ∧ tm'.get 0 = some (.ptr (some (y, 0))) ∧ tm'.get 1 = some v ∧ tm'.get 5 = some (.map (some bm)) ∧ ∃ h' m' m cl, σ' = ⟨h', m', fl⟩ ∧ m1 ≤ m' ∧ Fresh h' m' ∧ (∀ b, b < m1 → b ≠ bm → h'.get b = h.get b) ∧
      h'.get bm = some (mobj m cl) ∧ MOK m cl ∧ ∀ (j : Int) (d : Nat), mget m j d = (if 0 ≤ j ∧ j < R.rs.length ∧ (R.at j.toNat).ready = d then (R.at j.toNat).logs else 0) := by
  refine loop_up (fun k tm σ => tm.get 0 = some (.ptr (some (y, 0))) ∧ tm.get 1 = some v ∧ tm.get 5 = some (.map (some bm)) ∧ tm.get 24 = some sl ∧ tm.get 25 = some (.int .i64 R.rs.length) ∧ tm.get 26 = some (.int .i64 (k : Int)) ∧
      ∃ h' m' m cl, σ = ⟨h', m', fl⟩ ∧ m1 ≤ m' ∧ Fresh h' m' ∧ (∀ b, b < m1 → b ≠ bm → h'.get b = h.get b) ∧ h'.get bm = some (mobj m cl) ∧ MOK m cl ∧
        ∀ (j : Int) (d : Nat), mget m j d = (if 0 ≤ j ∧ j < k ∧ (R.at j.toNat).ready = d then (R.at j.toNat).logs else 0)) _ R.rs.length ?_ ?_
    R.rs.length 0 tm _ (by simp) ⟨h0, h1, h5, h24, h25, h26, h, m1, [], 0, rfl, Nat.le_refl _, hf, fun _ _ _ => rfl, hbm, MOK.nil, fun j d => by rw [if_neg (by omega)]; rfl⟩
  · intro k tm σ hk ⟨h0, h1, h5, h24, h25, h26, h', m', m, cl, hσ, hm', hf', ha, hb', hm, hg⟩ S hI hQ
    subst hσ
    have hbl := hf _ _ hbm
    have hs' : SlV h' 8 (some 8) sl (R.rs.map Reach.av) := by
      obtain ⟨a, c, e, ck, rfl, hl⟩ := hs
      refine ⟨a, c, e, ck, rfl, fun i x hx => ?_⟩
      obtain ⟨b, o, rfl, hld⟩ := hl i x hx
      refine ⟨b, o, rfl, fun n fl => ?_⟩
      have hb1 := load_lt hf hld
      have hne : b ≠ bm := by
        intro e; subst e
        have h0 := hld 0 0
        rw [ldN, hbm] at h0
        cases h0
      rw [← hld n fl, ldN, ldN, ha b hb1 hne]
    have hx : (R.rs.map Reach.av)[k]? = some (Reach.av (R.at k)) := by rw [List.getElem?_map, List.getElem?_eq_getElem hk, at_of (List.getElem?_eq_getElem hk)]; rfl
    obtain ⟨b2, o, c, e, ck, rfl, hb2, hkk, _⟩ := hs'.many hf' hx (List.length_map _)
    have hlt : ((k : Int) < (R.rs.length : Int)) := by omega
    have hl8 := hv.l2
    have ok := hv.ok hk
    have hb2n := ne_new hb2
    have hbmn : (bm = m') = False := by simp; omega
    have hw : wrapF .i64 ((k : Int) + 1) = ((k + 1 : Nat) : Int) := by rw [wrap64 (by omega) (by omega)]; omega
    obtain ⟨rd, hrd⟩ : ∃ rd : Nat, (R.at k).ready = rd := ⟨(R.at k).ready.toNat, by have := ok.r1; omega⟩
    have hz : mget m (k : Int) (R.at k).ready = 0 := by rw [hrd, hg]; rw [if_neg (by omega)]
    have hw2 : wrapF .i64 (0 + (R.at k).logs) = (R.at k).logs := by rw [wrap64 (by have := ok.l1; omega) (by have := ok.l2; omega)]; omega
    have hfm : fl ≤ m' := by omega
    have hre := (mins_ok (a := (k : Int)) (b := (R.at k).ready) hm).2.2 (k : Int) (R.at k).ready
    have hes : ∀ (h : T AObj) (n : Nat) (v : Int), esF h n fl bm (mborn m (k : Int) (R.at k).ready cl : Nat) (.int .i64 v) (some (mobj (mins m (k : Int) (R.at k).ready cl) (mcl m (k : Int) (R.at k).ready cl))) = _ := fun h n v => esF_put (v := v) hm hfl
    rw [hz] at hre
    simp -implicitDefEqProofs only [a47_L0, ev0, ev1, ev2, ev3, ev4, ev5, ev6, ev7, evx, if_true, if_false, Nat.reduceEqDiff, Nat.reduceAdd, Nat.reduceMul, Nat.reduceSub, ↓reduceIte, reduceCtorEq, Nat.reduceLeDiff, Nat.reduceLT, Int.reduceLE, Int.reduceLT, Int.reduceEq, Int.reduceNeg, Int.reduceToNat, h5, h24, h25, h26, hlt, hk, hb2n, hbmn, hkk, hb', hfm, hfl, hz, hw2, hre, hes, hw]
    refine hI _ _ ⟨by simp -implicitDefEqProofs only [ev0, ev1, ev2, ev3, ev4, ev5, ev6, ev7, evx, if_true, if_false, Nat.reduceEqDiff, Nat.reduceAdd, Nat.reduceMul, Nat.reduceSub, ↓reduceIte, reduceCtorEq, Nat.reduceLeDiff, Nat.reduceLT, Int.reduceLE, Int.reduceLT, Int.reduceEq, Int.reduceNeg, Int.reduceToNat, h0], by simp -implicitDefEqProofs only [ev0, ev1, ev2, ev3, ev4, ev5, ev6, ev7, evx, if_true, if_false, Nat.reduceEqDiff, Nat.reduceAdd, Nat.reduceMul, Nat.reduceSub, ↓reduceIte, reduceCtorEq, Nat.reduceLeDiff, Nat.reduceLT, Int.reduceLE, Int.reduceLT, Int.reduceEq, Int.reduceNeg, Int.reduceToNat, h1], by simp -implicitDefEqProofs only [ev0, ev1, ev2, ev3, ev4, ev5, ev6, ev7, evx, if_true, if_false, Nat.reduceEqDiff, Nat.reduceAdd, Nat.reduceMul, Nat.reduceSub, ↓reduceIte, reduceCtorEq, Nat.reduceLeDiff, Nat.reduceLT, Int.reduceLE, Int.reduceLT, Int.reduceEq, Int.reduceNeg, Int.reduceToNat, h5], by simp -implicitDefEqProofs only [ev0, ev1, ev2, ev3, ev4, ev5, ev6, ev7, evx, if_true, if_false, Nat.reduceEqDiff, Nat.reduceAdd, Nat.reduceMul, Nat.reduceSub, ↓reduceIte, reduceCtorEq, Nat.reduceLeDiff, Nat.reduceLT, Int.reduceLE, Int.reduceLT, Int.reduceEq, Int.reduceNeg, Int.reduceToNat, h24], by simp -implicitDefEqProofs only [ev0, ev1, ev2, ev3, ev4, ev5, ev6, ev7, evx, if_true, if_false, Nat.reduceEqDiff, Nat.reduceAdd, Nat.reduceMul, Nat.reduceSub, ↓reduceIte, reduceCtorEq, Nat.reduceLeDiff, Nat.reduceLT, Int.reduceLE, Int.reduceLT, Int.reduceEq, Int.reduceNeg, Int.reduceToNat, h25], by simp -implicitDefEqProofs only [ev0, ev1, ev2, ev3, ev4, ev5, ev6, ev7, evx, if_true, if_false, Nat.reduceEqDiff, Nat.reduceAdd, Nat.reduceMul, Nat.reduceSub, ↓reduceIte, reduceCtorEq, Nat.reduceLeDiff, Nat.reduceLT, Int.reduceLE, Int.reduceLT, Int.reduceEq, Int.reduceNeg, Int.reduceToNat], _, _, mput m k (R.at k).ready (R.at k).logs cl, _, rfl, by omega, (hf'.put (n' := m' + 1) (by omega) (by omega)).put (by omega) (by omega), fun b hb hbe => ?_, hget_eq, mput_ok hm, fun j d => ?_⟩
    · rw [hget_ne hbe, hget_ne (by omega)]; exact ha b hb hbe
    · rw [mget_put hm, hg]
      by_cases e : j = (k : Int)
      · subst e
        simp only [Int.toNat_natCast, true_and]
        by_cases e2 : (d : Int) = (R.at k).ready
        · rw [if_pos e2, if_pos ⟨by omega, by omega, e2.symm⟩]
        · rw [if_neg e2, if_neg (by omega), if_neg (fun hh => e2 hh.2.2.symm)]
      · rw [if_neg (fun hh => e hh.1)]
        by_cases c1 : 0 ≤ j ∧ j < k ∧ (R.at j.toNat).ready = d
        · rw [if_pos c1, if_pos ⟨c1.1, by omega, c1.2.2⟩]
        · rw [if_neg c1, if_neg (fun hh => c1 ⟨hh.1, by omega, hh.2.2⟩)]
  · intro tm σ ⟨h0, h1, h5, h24, h25, h26, h', m', m, cl, hσ, hm', hf', ha, hb', hm, hg⟩ S hQ
    subst hσ
    have hlt : ¬ ((R.rs.length : Int) < (R.rs.length : Int)) := by omega
    simp -implicitDefEqProofs only [a47_L0, ev0, ev1, ev2, ev3, ev4, ev5, ev6, ev7, evx, if_true, if_false, Nat.reduceEqDiff, Nat.reduceAdd, Nat.reduceMul, Nat.reduceSub, ↓reduceIte, reduceCtorEq, Nat.reduceLeDiff, Nat.reduceLT, Int.reduceLE, Int.reduceLT, Int.reduceEq, Int.reduceNeg, Int.reduceToNat, h25, h26, hlt]
    exact hQ _ _ _ (by simp) ⟨rfl, by simp -implicitDefEqProofs only [ev0, ev1, ev2, ev3, ev4, ev5, ev6, ev7, evx, if_true, if_false, Nat.reduceEqDiff, Nat.reduceAdd, Nat.reduceMul, Nat.reduceSub, ↓reduceIte, reduceCtorEq, Nat.reduceLeDiff, Nat.reduceLT, Int.reduceLE, Int.reduceLT, Int.reduceEq, Int.reduceNeg, Int.reduceToNat, h0], by simp -implicitDefEqProofs only [ev0, ev1, ev2, ev3, ev4, ev5, ev6, ev7, evx, if_true, if_false, Nat.reduceEqDiff, Nat.reduceAdd, Nat.reduceMul, Nat.reduceSub, ↓reduceIte, reduceCtorEq, Nat.reduceLeDiff, Nat.reduceLT, Int.reduceLE, Int.reduceLT, Int.reduceEq, Int.reduceNeg, Int.reduceToNat, h1], by simp -implicitDefEqProofs only [ev0, ev1, ev2, ev3, ev4, ev5, ev6, ev7, evx, if_true, if_false, Nat.reduceEqDiff, Nat.reduceAdd, Nat.reduceMul, Nat.reduceSub, ↓reduceIte, reduceCtorEq, Nat.reduceLeDiff, Nat.reduceLT, Int.reduceLE, Int.reduceLT, Int.reduceEq, Int.reduceNeg, Int.reduceToNat, h5], h', m', m, cl, rfl, hm', hf', ha, hb', hm, hg⟩
end
end Go.AM
