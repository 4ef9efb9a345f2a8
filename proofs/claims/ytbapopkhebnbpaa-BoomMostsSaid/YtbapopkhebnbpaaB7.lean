/- The most cells that so many sticks enclose: the program, and the law. -/
import Derived.Test.YtbapopkhebnbpaaB2
set_option linter.all false
set_option linter.unusedVariables false
set_option linter.unusedSimpArgs false
set_option linter.unusedSectionVars false
namespace Go.AM
open Go
noncomputable section
variable {tm tm' : T AV} {σ σ' : AS} {h h' : T AObj} {n n' fl : Nat} {v : AV}

def pr2 (p : Nat × Nat) : List AV := [.int .i64 (p.1 : Int), .int .i64 (p.2 : Int)]
def cl2 (l : List (Nat × Nat)) : List AV := l.flatMap pr2
theorem cl2_len : ∀ l : List (Nat × Nat), (cl2 l).length = l.length * 2
  | [] => rfl
  | p :: l => by
    show (pr2 p ++ cl2 l).length = _
    rw [List.length_append, cl2_len l, List.length_cons, Nat.add_mul]; show 2 + _ = _; omega
theorem cl2_app (l l' : List (Nat × Nat)) : cl2 (l ++ l') = cl2 l ++ cl2 l' := by unfold cl2; rw [List.flatMap_append]
theorem cl2_rd : ∀ {l : List (Nat × Nat)} {i : Nat} {p : Nat × Nat}, l[i]? = some p → rd (cl2 l) (i * 2) 2 = some (pr2 p)
  | [], _, _, h => by simp at h
  | x :: l, 0, p, h => by
    simp at h; subst h
    rw [rd_E]
    show (bif decide (0 * 2 + 2 ≤ (pr2 x ++ cl2 l).length) then some (((pr2 x ++ cl2 l).drop (0 * 2)).take 2) else none) = _
    rw [List.length_append]
    simp [pr2]
  | x :: l, i + 1, p, h => by
    have ih := cl2_rd (l := l) (i := i) (p := p) (by simpa using h)
    rw [rd_E] at ih ⊢
    show (bif decide ((i + 1) * 2 + 2 ≤ (pr2 x ++ cl2 l).length) then some (((pr2 x ++ cl2 l).drop ((i + 1) * 2)).take 2) else none) = _
    have hx : (pr2 x).length = 2 := rfl
    have e : (pr2 x ++ cl2 l).drop ((i + 1) * 2) = (cl2 l).drop (i * 2) := by
      rw [show (i + 1) * 2 = (pr2 x).length + i * 2 by rw [hx]; omega, List.drop_append, List.drop_eq_nil_of_le (by omega), Nat.add_sub_cancel_left]; rfl
    rw [e, List.length_append, hx]
    by_cases c : i * 2 + 2 ≤ (cl2 l).length
    · simp only [c, decide_true, cond_true] at ih
      simp only [show (i + 1) * 2 + 2 ≤ 2 + (cl2 l).length by omega, decide_true, cond_true]; exact ih
    · simp [c] at ih

theorem more_call {a b c d : Nat} (ha : a ≤ 8) (hb : b ≤ 8) (hc : c ≤ 8) (hd : d ≤ 8) : (lim ft (oraOf 18 true)).call (.fn 91 [] []) [.agg [.int .i64 (a : Int), .int .i64 (b : Int)], .agg [.int .i64 (c : Int), .int .i64 (d : Int)]] ⟨h, n, fl⟩ = some (.bool (decide (c * d < a * b)), ⟨h, n, fl⟩) := by
  have m1 : a * b ≤ 8 * 8 := Nat.mul_le_mul ha hb
  have m2 : c * d ≤ 8 * 8 := Nat.mul_le_mul hc hd
  have w1 : wrapF .i64 ((a : Int) * (b : Int)) = ((a * b : Nat) : Int) := by rw [← Int.natCast_mul, wrap64 (by omega) (by omega)]
  have w2 : wrapF .i64 ((c : Int) * (d : Int)) = ((c * d : Nat) : Int) := by rw [← Int.natCast_mul, wrap64 (by omega) (by omega)]
  refine pure_call rfl (by rfl) rfl rfl rfl ?_
  by_cases q : c * d < a * b
  · have q' : ((c * d : Nat) : Int) < ((a * b : Nat) : Int) := by omega
    simp -implicitDefEqProofs only [a91, ev0, ev1, ev2, ev3, ev4, ev5, ev6, ev7, evx, if_true, if_false, Nat.reduceEqDiff, Nat.reduceAdd, Nat.reduceMul, Nat.reduceSub, ↓reduceIte, reduceCtorEq, Nat.reduceLeDiff, Nat.reduceLT, Int.reduceLE, Int.reduceLT, Int.reduceEq, Int.reduceNeg, Int.reduceToNat, w1, w2, q, q']
  · have q' : ¬ ((c * d : Nat) : Int) < ((a * b : Nat) : Int) := by omega
    simp -implicitDefEqProofs only [a91, ev0, ev1, ev2, ev3, ev4, ev5, ev6, ev7, evx, if_true, if_false, Nat.reduceEqDiff, Nat.reduceAdd, Nat.reduceMul, Nat.reduceSub, ↓reduceIte, reduceCtorEq, Nat.reduceLeDiff, Nat.reduceLT, Int.reduceLE, Int.reduceLT, Int.reduceEq, Int.reduceNeg, Int.reduceToNat, w1, w2, q, q']

def bstep (o x : Nat × Nat) : Nat × Nat := if o.1 * o.2 < x.1 * x.2 then x else o
theorem best_L0 {x0 : Nat × Nat} {rest : List (Nat × Nat)} {b ob c e m0 : Nat} {ck : CK} (hl : rest.length < 100) (h8 : ∀ p ∈ x0 :: rest, p.1 ≤ 8 ∧ p.2 ≤ 8) (hf : Fresh h m0) (hbo : b ≠ ob) (hfl : fl ≤ ob) (hb : h.get b = some (.cells (cl2 (x0 :: rest)) false)) (ho : h.get ob = some (.cells (pr2 x0) false))
    (h1 : tm.get 1 = some (.fn 91 [] [])) (h4 : tm.get 4 = some v) (h5 : tm.get 5 = some (.ptr (some (ob, 0)))) (h12 : tm.get 12 = some (.slc (some (b, 2)) rest.length c e ck)) (h13 : tm.get 13 = some (.int .i64 rest.length)) (h14 : tm.get 14 = some (.int .i64 0)) :
    Done ((lim ft (oraOf 18 true)).exec (.loop a90_L0) tm ⟨h, m0, fl⟩) fun x tm' σ' => x = .exit 0 ∧ ∃ h2 m2, σ' = ⟨h2, m2, fl⟩ ∧ (∀ x, x < m0 → x ≠ ob → h2.get x = h.get x) ∧ h2.get ob = some (.cells (pr2 (rest.foldl bstep x0)) false) ∧ tm'.get 4 = some v ∧ tm'.get 5 = some (.ptr (some (ob, 0))) := by
  have hbm : b < m0 := hf _ _ hb
  have hom : ob < m0 := hf _ _ ho
  refine loop_up (fun j tm σ => tm.get 1 = some (.fn 91 [] []) ∧ tm.get 4 = some v ∧ tm.get 5 = some (.ptr (some (ob, 0))) ∧ tm.get 12 = some (.slc (some (b, 2)) rest.length c e ck) ∧ tm.get 13 = some (.int .i64 rest.length) ∧ tm.get 14 = some (.int .i64 (j : Int)) ∧
      ∃ h2 m2 o, σ = ⟨h2, m2, fl⟩ ∧ m0 ≤ m2 ∧ Fresh h2 m2 ∧ (∀ x, x < m0 → x ≠ ob → h2.get x = h.get x) ∧ h2.get ob = some (.cells (pr2 o) false) ∧ o = (rest.take j).foldl bstep x0 ∧ o.1 ≤ 8 ∧ o.2 ≤ 8) _ rest.length ?_ ?_
    rest.length 0 tm _ (by simp) ⟨h1, h4, h5, h12, h13, h14, h, m0, x0, rfl, Nat.le_refl _, hf, fun _ _ _ => rfl, ho, rfl, h8 x0 (by simp)⟩
  · intro j tm σ hj ⟨h1, h4, h5, h12, h13, h14, h2, m2, o, hσ, hm, hfm, hkp, ho2, hoe, o1, o2⟩ S hI hQ
    subst hσ
    have hb2 : h2.get b = some (.cells (cl2 (x0 :: rest)) false) := by rw [hkp b hbm hbo, hb]
    have hlt : ((j : Int) < (rest.length : Int)) := by omega
    have hw : wrapF .i64 ((j : Int) + 1) = ((j + 1 : Nat) : Int) := by rw [wrap64 (by omega) (by omega)]; omega
    have hx8 := h8 rest[j] (by simp)
    have hnx : (rest.take (j + 1)).foldl bstep x0 = bstep o rest[j] := by rw [List.take_succ_eq_append_getElem hj, List.foldl_append, ← hoe]; rfl
    have hr := cl2_rd (l := x0 :: rest) (i := j + 1) (p := rest[j]) (by simp [hj])
    rw [show (j + 1) * 2 = 2 + j * 2 by omega] at hr
    rw [← rdk_s (ro := false), ← hb2] at hr
    generalize rest[j]'hj = y at hx8 hnx hr
    obtain ⟨ya, yb⟩ := y
    obtain ⟨oa, ob'⟩ := o
    have sm : (b = m2) = False := by simp; omega
    have om : (ob = m2) = False := by simp; omega
    have flm : fl ≤ m2 := by omega
    simp only [pr2] at hr ho2
    have ec := more_call (h := h2.put m2 (some (.cells [.int .i64 (ya : Int), .int .i64 (yb : Int)] false))) (n := m2 + 1) (fl := fl) (a := ya) (b := yb) (c := oa) (d := ob') hx8.1 hx8.2 o1 o2
    by_cases q : oa * ob' < ya * yb
    · have hn : bstep (oa, ob') (ya, yb) = (ya, yb) := by unfold bstep; rw [if_pos q]
      rw [hn] at hnx
      have q1 : decide (oa * ob' < ya * yb) = true := by simp [q]
      rw [q1] at ec
      simp -implicitDefEqProofs only [a90_L0, ev0, ev1, ev2, ev3, ev4, ev5, ev6, ev7, evx, if_true, if_false, Nat.reduceEqDiff, Nat.reduceAdd, Nat.reduceMul, Nat.reduceSub, ↓reduceIte, reduceCtorEq, Nat.reduceLeDiff, Nat.reduceLT, Int.reduceLE, Int.reduceLT, Int.reduceEq, Int.reduceNeg, Int.reduceToNat, h1, h4, h5, h12, h13, h14, hlt, hj, hw, hr, sm, om, flm, hfl, ho2, ec]
      refine hI _ _ ⟨by simp -implicitDefEqProofs only [ev0, ev1, ev2, ev3, ev4, ev5, ev6, ev7, evx, if_true, if_false, Nat.reduceEqDiff, Nat.reduceAdd, Nat.reduceMul, Nat.reduceSub, ↓reduceIte, reduceCtorEq, Nat.reduceLeDiff, Nat.reduceLT, Int.reduceLE, Int.reduceLT, Int.reduceEq, Int.reduceNeg, Int.reduceToNat, h1], by simp -implicitDefEqProofs only [ev0, ev1, ev2, ev3, ev4, ev5, ev6, ev7, evx, if_true, if_false, Nat.reduceEqDiff, Nat.reduceAdd, Nat.reduceMul, Nat.reduceSub, ↓reduceIte, reduceCtorEq, Nat.reduceLeDiff, Nat.reduceLT, Int.reduceLE, Int.reduceLT, Int.reduceEq, Int.reduceNeg, Int.reduceToNat, h4], by simp -implicitDefEqProofs only [ev0, ev1, ev2, ev3, ev4, ev5, ev6, ev7, evx, if_true, if_false, Nat.reduceEqDiff, Nat.reduceAdd, Nat.reduceMul, Nat.reduceSub, ↓reduceIte, reduceCtorEq, Nat.reduceLeDiff, Nat.reduceLT, Int.reduceLE, Int.reduceLT, Int.reduceEq, Int.reduceNeg, Int.reduceToNat, h5], by simp -implicitDefEqProofs only [ev0, ev1, ev2, ev3, ev4, ev5, ev6, ev7, evx, if_true, if_false, Nat.reduceEqDiff, Nat.reduceAdd, Nat.reduceMul, Nat.reduceSub, ↓reduceIte, reduceCtorEq, Nat.reduceLeDiff, Nat.reduceLT, Int.reduceLE, Int.reduceLT, Int.reduceEq, Int.reduceNeg, Int.reduceToNat, h12], by simp -implicitDefEqProofs only [ev0, ev1, ev2, ev3, ev4, ev5, ev6, ev7, evx, if_true, if_false, Nat.reduceEqDiff, Nat.reduceAdd, Nat.reduceMul, Nat.reduceSub, ↓reduceIte, reduceCtorEq, Nat.reduceLeDiff, Nat.reduceLT, Int.reduceLE, Int.reduceLT, Int.reduceEq, Int.reduceNeg, Int.reduceToNat, h13], by simp -implicitDefEqProofs only [ev0, ev1, ev2, ev3, ev4, ev5, ev6, ev7, evx, if_true, if_false, Nat.reduceEqDiff, Nat.reduceAdd, Nat.reduceMul, Nat.reduceSub, ↓reduceIte, reduceCtorEq, Nat.reduceLeDiff, Nat.reduceLT, Int.reduceLE, Int.reduceLT, Int.reduceEq, Int.reduceNeg, Int.reduceToNat], _, m2 + 1, (ya, yb), rfl, by omega, (hfm.put (n' := m2 + 1) (by omega) (by omega)).put (by omega) (by omega), fun x a1 a2 => ?_, by rw [hget_eq]; rfl, hnx.symm, hx8⟩
      rw [hget_ne a2, hget_ne (by omega)]; exact hkp x a1 a2
    · have hn : bstep (oa, ob') (ya, yb) = (oa, ob') := by unfold bstep; rw [if_neg q]
      rw [hn] at hnx
      have q1 : decide (oa * ob' < ya * yb) = false := by simp [q]
      rw [q1] at ec
      simp -implicitDefEqProofs only [a90_L0, ev0, ev1, ev2, ev3, ev4, ev5, ev6, ev7, evx, if_true, if_false, Nat.reduceEqDiff, Nat.reduceAdd, Nat.reduceMul, Nat.reduceSub, ↓reduceIte, reduceCtorEq, Nat.reduceLeDiff, Nat.reduceLT, Int.reduceLE, Int.reduceLT, Int.reduceEq, Int.reduceNeg, Int.reduceToNat, h1, h4, h5, h12, h13, h14, hlt, hj, hw, hr, sm, om, flm, hfl, ho2, ec]
      refine hI _ _ ⟨by simp -implicitDefEqProofs only [ev0, ev1, ev2, ev3, ev4, ev5, ev6, ev7, evx, if_true, if_false, Nat.reduceEqDiff, Nat.reduceAdd, Nat.reduceMul, Nat.reduceSub, ↓reduceIte, reduceCtorEq, Nat.reduceLeDiff, Nat.reduceLT, Int.reduceLE, Int.reduceLT, Int.reduceEq, Int.reduceNeg, Int.reduceToNat, h1], by simp -implicitDefEqProofs only [ev0, ev1, ev2, ev3, ev4, ev5, ev6, ev7, evx, if_true, if_false, Nat.reduceEqDiff, Nat.reduceAdd, Nat.reduceMul, Nat.reduceSub, ↓reduceIte, reduceCtorEq, Nat.reduceLeDiff, Nat.reduceLT, Int.reduceLE, Int.reduceLT, Int.reduceEq, Int.reduceNeg, Int.reduceToNat, h4], by simp -implicitDefEqProofs only [ev0, ev1, ev2, ev3, ev4, ev5, ev6, ev7, evx, if_true, if_false, Nat.reduceEqDiff, Nat.reduceAdd, Nat.reduceMul, Nat.reduceSub, ↓reduceIte, reduceCtorEq, Nat.reduceLeDiff, Nat.reduceLT, Int.reduceLE, Int.reduceLT, Int.reduceEq, Int.reduceNeg, Int.reduceToNat, h5], by simp -implicitDefEqProofs only [ev0, ev1, ev2, ev3, ev4, ev5, ev6, ev7, evx, if_true, if_false, Nat.reduceEqDiff, Nat.reduceAdd, Nat.reduceMul, Nat.reduceSub, ↓reduceIte, reduceCtorEq, Nat.reduceLeDiff, Nat.reduceLT, Int.reduceLE, Int.reduceLT, Int.reduceEq, Int.reduceNeg, Int.reduceToNat, h12], by simp -implicitDefEqProofs only [ev0, ev1, ev2, ev3, ev4, ev5, ev6, ev7, evx, if_true, if_false, Nat.reduceEqDiff, Nat.reduceAdd, Nat.reduceMul, Nat.reduceSub, ↓reduceIte, reduceCtorEq, Nat.reduceLeDiff, Nat.reduceLT, Int.reduceLE, Int.reduceLT, Int.reduceEq, Int.reduceNeg, Int.reduceToNat, h13], by simp -implicitDefEqProofs only [ev0, ev1, ev2, ev3, ev4, ev5, ev6, ev7, evx, if_true, if_false, Nat.reduceEqDiff, Nat.reduceAdd, Nat.reduceMul, Nat.reduceSub, ↓reduceIte, reduceCtorEq, Nat.reduceLeDiff, Nat.reduceLT, Int.reduceLE, Int.reduceLT, Int.reduceEq, Int.reduceNeg, Int.reduceToNat], _, m2 + 1, (oa, ob'), rfl, by omega, hfm.put (n' := m2 + 1) (by omega) (by omega), fun x a1 a2 => ?_, ?_, hnx.symm, o1, o2⟩
      · rw [hget_ne (by omega)]; exact hkp x a1 a2
      · rw [hget_ne (by omega)]; exact ho2
  · intro tm σ ⟨h1, h4, h5, h12, h13, h14, h2, m2, o, hσ, hm, hfm, hkp, ho2, hoe, o1, o2⟩ S hQ
    subst hσ
    have hlt : ¬ ((rest.length : Int) < (rest.length : Int)) := by omega
    simp -implicitDefEqProofs only [a90_L0, ev0, ev1, ev2, ev3, ev4, ev5, ev6, ev7, evx, if_true, if_false, Nat.reduceEqDiff, Nat.reduceAdd, Nat.reduceMul, Nat.reduceSub, ↓reduceIte, reduceCtorEq, Nat.reduceLeDiff, Nat.reduceLT, Int.reduceLE, Int.reduceLT, Int.reduceEq, Int.reduceNeg, Int.reduceToNat, h13, h14, hlt]
    rw [List.take_length] at hoe
    subst hoe
    exact hQ _ _ _ (by simp) ⟨rfl, h2, m2, rfl, hkp, ho2, by simp -implicitDefEqProofs only [ev0, ev1, ev2, ev3, ev4, ev5, ev6, ev7, evx, if_true, if_false, Nat.reduceEqDiff, Nat.reduceAdd, Nat.reduceMul, Nat.reduceSub, ↓reduceIte, reduceCtorEq, Nat.reduceLeDiff, Nat.reduceLT, Int.reduceLE, Int.reduceLT, Int.reduceEq, Int.reduceNeg, Int.reduceToNat, h4], by simp -implicitDefEqProofs only [ev0, ev1, ev2, ev3, ev4, ev5, ev6, ev7, evx, if_true, if_false, Nat.reduceEqDiff, Nat.reduceAdd, Nat.reduceMul, Nat.reduceSub, ↓reduceIte, reduceCtorEq, Nat.reduceLeDiff, Nat.reduceLT, Int.reduceLE, Int.reduceLT, Int.reduceEq, Int.reduceNeg, Int.reduceToNat, h5]⟩
theorem slice_t1 {b N : Nat} {ck : CK} (hck : ck ≠ .opaq) : sliceV 111 2 (.slc (some (b, 0)) (N + 1) (N + 1) 111 ck) (some (.int .i64 1)) none none = some (.slc (some (b, 2)) N N 111 ck) := by
  have e1 : Nat.ble 1 (N + 1) = true := Nat.ble_eq_true_of_le (by omega)
  have e2 : asNat (.int .i64 1) = some 1 := rfl
  have hb : bounds3 (N + 1) (N + 1) (some (.int .i64 1)) none none = some (1, N + 1, N + 1) := by
    unfold bounds3
    simp [e1, e2]
  unfold sliceV
  dsimp only
  rw [hb]
  cases ck with
  | opaq => exact absurd rfl hck
  | exact => simp
  | tail => simp
theorem opdO_n : opdO none tm = some none := rfl
theorem opdO_c {a : AV} : opdO (some (.const a)) tm = some (some a) := rfl

theorem best_call {l : List (Nat × Nat)} (hl : l.length < 100) (hne : l ≠ []) (h8 : ∀ p ∈ l, p.1 ≤ 8 ∧ p.2 ≤ 8) (hf : Fresh h n) (hg : GrowSl h 111 2 v l.length (cl2 l)) :
    (lim ft (oraOf 18 true)).call (.fn 90 [] []) [v, .fn 91 [] []] ⟨h, n, fl⟩ = some (.agg (pr2 (bestOf l)), ⟨h, n, fl⟩) := by
  match l, hne with
  | x0 :: rest, _ =>
    obtain ⟨b, ck, rfl, hck, hb⟩ : ∃ b ck, v = .slc (some (b, 0)) (rest.length + 1) (rest.length + 1) 111 ck ∧ ck ≠ .opaq ∧ h.get b = some (.cells (cl2 (x0 :: rest)) false) := by
      rcases hg.here with ⟨_, rfl, k1, _⟩ | ⟨b2, ck, rfl, k2, k3⟩
      · simp at k1
      · exact ⟨b2, ck, rfl, k2, k3⟩
    have hbn : b < n := hf _ _ hb
    have hsl := slice_t1 (b := b) (N := rest.length) hck
    have hr := cl2_rd (l := x0 :: rest) (i := 0) (p := x0) rfl
    rw [Nat.zero_mul, ← rdk_s (ro := false), ← hb] at hr
    have n0 : (b = n) = False := by simp; omega
    have n1 : (b = n + 1) = False := by simp; omega
    have hlt : (0 : Nat) < rest.length + 1 := by omega
    refine pure_call rfl (by rfl) rfl rfl rfl ?_
    simp only [pr2] at hr
    simp -implicitDefEqProofs only [a90, ev0, ev1, ev2, ev3, ev4, ev5, ev6, ev7, evx, if_true, if_false, Nat.reduceEqDiff, Nat.reduceAdd, Nat.reduceMul, Nat.reduceSub, ↓reduceIte, reduceCtorEq, Nat.reduceLeDiff, Nat.reduceLT, Int.reduceLE, Int.reduceLT, Int.reduceEq, Int.reduceNeg, Int.reduceToNat, hr, n0, n1, hlt, opdO_n, opdO_c, hsl]
    generalize hT : T.put _ 14 _ = T0
    generalize hH : T.put _ (n + 1) _ = H
    have fH : Fresh H (n + 2) := by
      subst hH
      exact (hf.put (n' := n + 1) (by omega) (by omega)).put (by omega) (by omega)
    have gb : H.get b = some (.cells (cl2 (x0 :: rest)) false) := by subst hH; rw [hget_ne (by omega), hget_ne (by omega)]; exact hb
    have go : H.get (n + 1) = some (.cells (pr2 x0) false) := by subst hH; rw [hget_eq]; rfl
    obtain ⟨x, tm2, σ2, el, rfl, h2, m2, rfl, kp, k1, k4, k5⟩ := best_L0 (tm := T0) (fl := n) (c := rest.length) (e := 111) (ck := ck) (v := .ptr (some (n, 0))) (by have : rest.length + 1 < 100 := hl; omega) h8 fH (by omega) (by omega) gb go (by subst hT; simp -implicitDefEqProofs only [ev0, ev1, ev2, ev3, ev4, ev5, ev6, ev7, evx, if_true, if_false, Nat.reduceEqDiff, Nat.reduceAdd, Nat.reduceMul, Nat.reduceSub, ↓reduceIte, reduceCtorEq, Nat.reduceLeDiff, Nat.reduceLT, Int.reduceLE, Int.reduceLT, Int.reduceEq, Int.reduceNeg, Int.reduceToNat]) (by subst hT; simp -implicitDefEqProofs only [ev0, ev1, ev2, ev3, ev4, ev5, ev6, ev7, evx, if_true, if_false, Nat.reduceEqDiff, Nat.reduceAdd, Nat.reduceMul, Nat.reduceSub, ↓reduceIte, reduceCtorEq, Nat.reduceLeDiff, Nat.reduceLT, Int.reduceLE, Int.reduceLT, Int.reduceEq, Int.reduceNeg, Int.reduceToNat]) (by subst hT; simp -implicitDefEqProofs only [ev0, ev1, ev2, ev3, ev4, ev5, ev6, ev7, evx, if_true, if_false, Nat.reduceEqDiff, Nat.reduceAdd, Nat.reduceMul, Nat.reduceSub, ↓reduceIte, reduceCtorEq, Nat.reduceLeDiff, Nat.reduceLT, Int.reduceLE, Int.reduceLT, Int.reduceEq, Int.reduceNeg, Int.reduceToNat]) (by subst hT; simp -implicitDefEqProofs only [ev0, ev1, ev2, ev3, ev4, ev5, ev6, ev7, evx, if_true, if_false, Nat.reduceEqDiff, Nat.reduceAdd, Nat.reduceMul, Nat.reduceSub, ↓reduceIte, reduceCtorEq, Nat.reduceLeDiff, Nat.reduceLT, Int.reduceLE, Int.reduceLT, Int.reduceEq, Int.reduceNeg, Int.reduceToNat]) (by subst hT; simp -implicitDefEqProofs only [ev0, ev1, ev2, ev3, ev4, ev5, ev6, ev7, evx, if_true, if_false, Nat.reduceEqDiff, Nat.reduceAdd, Nat.reduceMul, Nat.reduceSub, ↓reduceIte, reduceCtorEq, Nat.reduceLeDiff, Nat.reduceLT, Int.reduceLE, Int.reduceLT, Int.reduceEq, Int.reduceNeg, Int.reduceToNat]) (by subst hT; simp -implicitDefEqProofs only [ev0, ev1, ev2, ev3, ev4, ev5, ev6, ev7, evx, if_true, if_false, Nat.reduceEqDiff, Nat.reduceAdd, Nat.reduceMul, Nat.reduceSub, ↓reduceIte, reduceCtorEq, Nat.reduceLeDiff, Nat.reduceLT, Int.reduceLE, Int.reduceLT, Int.reduceEq, Int.reduceNeg, Int.reduceToNat])
    have hbo : bestOf (x0 :: rest) = rest.foldl bstep x0 := rfl
    rw [hbo]
    simp only [pr2] at k1 ⊢
    have g0 : h2.get n = some (.cells [.int .i64 0, .int .i64 0] false) := by rw [kp n (by omega) (by omega)]; subst hH; rw [hget_ne (by omega), hget_eq]
    simp -implicitDefEqProofs only [el, ev0, ev1, ev2, ev3, ev4, ev5, ev6, ev7, evx, if_true, if_false, Nat.reduceEqDiff, Nat.reduceAdd, Nat.reduceMul, Nat.reduceSub, ↓reduceIte, reduceCtorEq, Nat.reduceLeDiff, Nat.reduceLT, Int.reduceLE, Int.reduceLT, Int.reduceEq, Int.reduceNeg, Int.reduceToNat, k1, k4, k5, g0]
theorem cstep_8 {s hh k : Nat} (h8 : hh ≤ 8) : ∀ i, i ≤ 8 → (upTo (cStep s hh) i ([] : List (Nat × Nat))).length ≤ i ∧ ∀ p ∈ upTo (cStep s hh) i ([] : List (Nat × Nat)), p.1 ≤ 8 ∧ p.2 ≤ 8
  | 0, _ => ⟨Nat.le_refl _, fun p hp => by cases hp⟩
  | i + 1, hi => by
    have ih := cstep_8 (s := s) (k := k) h8 i (by omega)
    show (cStep s hh (i + 1) (upTo (cStep s hh) i [])).length ≤ i + 1 ∧ ∀ p ∈ cStep s hh (i + 1) (upTo (cStep s hh) i []), p.1 ≤ 8 ∧ p.2 ≤ 8
    unfold cStep
    split
    · refine ⟨by rw [List.length_append, List.length_singleton]; have := ih.1; unfold cStep at this; omega, fun p hp => ?_⟩
      rcases List.mem_append.1 hp with hp | hp
      · exact ih.2 p hp
      · simp at hp; subst hp; dsimp only; omega
    · exact ⟨by have := ih.1; unfold cStep at this; omega, ih.2⟩

theorem all_L0 {s q : Int} {w hh m0 : Nat} (hs : 4 ≤ s) (hs2 : s ≤ 9223372036854775807) (w8 : w ≤ 8) (hh8 : hh ≤ 8) (hq : wrapF .i64 (s.tdiv 2) = q) (q1 : 2 * q ≤ s) (q2 : s ≤ 2 * q + 1) (hf : Fresh h m0) (hfl : fl ≤ m0)
    (h0 : tm.get 0 = some (.int .i64 s)) (h1 : tm.get 1 = some (.int .i64 (w : Int))) (h2 : tm.get 2 = some (.int .i64 (hh : Int))) (h10 : tm.get 10 = some (.slc none 0 0 0 .exact)) (h11 : tm.get 11 = some (.int .i64 1)) :
    Done ((lim ft (oraOf 18 true)).exec (.loop a43_L0) tm ⟨h, m0, fl⟩) fun x tm' σ' => x = .exit 1 ∧ ∃ h2 m2 Q, tm'.get 10 = some Q ∧ σ' = ⟨h2, m2, fl⟩ ∧ m0 ≤ m2 ∧ Fresh h2 m2 ∧ GrowSl h2 111 2 Q (cAll (few s) hh w).length (cl2 (cAll (few s) hh w)) := by
  refine loop_up (fun i tm σ => 1 ≤ i ∧ tm.get 0 = some (.int .i64 s) ∧ tm.get 1 = some (.int .i64 (w : Int)) ∧ tm.get 2 = some (.int .i64 (hh : Int)) ∧ tm.get 11 = some (.int .i64 (i : Int)) ∧
      ∃ h2 m2 Q l len, tm.get 10 = some Q ∧ σ = ⟨h2, m2, fl⟩ ∧ m0 ≤ m2 ∧ Fresh h2 m2 ∧ l = upTo (cStep (few s) hh) (i - 1) [] ∧ len = l.length ∧ len ≤ 8 ∧ GrowSl h2 111 2 Q len (cl2 l) ∧ ∀ b, blkOf Q = some b → m0 ≤ b) _ (w + 1) ?_ ?_
    w 1 tm _ (by omega) ⟨Nat.le_refl _, h0, h1, h2, h11, h, m0, _, [], 0, h10, rfl, Nat.le_refl _, hf, rfl, rfl, by omega, GrowSl.nil, fun b e => by cases e⟩
  · intro i tm σ hi ⟨i1, h0, h1, h2, h11, hp, m, Q, l, len, h10, hσ, hm, hfm, hl, hlen, hlen8, hg, hqb⟩ S hI hQ
    subst hσ
    have hlt : (i : Int) ≤ (w : Int) := by omega
    have hw : wrapF .i64 ((i : Int) + 1) = ((i + 1 : Nat) : Int) := by rw [wrap64 (by omega) (by omega)]; omega
    have hq2 : wrapF .i64 (q - (i : Int)) = q - (i : Int) := wrap64 (by omega) (by omega)
    have hst : upTo (cStep (few s) hh) (i + 1 - 1) ([] : List (Nat × Nat)) = cStep (few s) hh i l := by rw [hl]; exact upTo_s i1
    have hq0 : ¬ ((2 : Int) = 0) := by omega
    by_cases c : 0 < min (hh : Int) (q - (i : Int))
    · obtain ⟨y, hy⟩ : ∃ y : Nat, min (hh : Int) (q - (i : Int)) = y := ⟨(min (hh : Int) (q - (i : Int))).toNat, by omega⟩
      have hcs : cStep (few s) hh i l = l ++ [(i, y)] := by
        have e1 : min hh (few s / 2 - i) = y := by unfold few; omega
        unfold cStep
        rw [e1, if_pos (by omega)]
      have hy0 : (0 : Int) < (y : Int) := by omega
      have g2 := hg.put (b := m) (o := some (.cells [.int .i64 (i : Int), .int .i64 (y : Int)] false)) fun e => by have := hg.lt hfm e; omega
      have f2 := hfm.put (b := m) (o := some (.cells [.int .i64 (i : Int), .int .i64 (y : Int)] false)) (n' := m + 1) (by omega) (by omega)
      obtain ⟨h3, ea, eg, ef, ek⟩ := g2.append (fl := fl) (bytes := 16) (k := 1) (bx := m) (ox := 0) (c := 1) (e := 111) (ck := .exact) (new := [.int .i64 (i : Int), .int .i64 (y : Int)]) (fun b hb' => by have := hqb b hb'; omega) f2
        (by rw [hget_eq, rdk_s]; rfl) (by omega) (by omega) rfl rfl
      simp -implicitDefEqProofs only [a43_L0, ev0, ev1, ev2, ev3, ev4, ev5, ev6, ev7, evx, if_true, if_false, Nat.reduceEqDiff, Nat.reduceAdd, Nat.reduceMul, Nat.reduceSub, ↓reduceIte, reduceCtorEq, Nat.reduceLeDiff, Nat.reduceLT, Int.reduceLE, Int.reduceLT, Int.reduceEq, Int.reduceNeg, Int.reduceToNat, fold_min, h0, h1, h2, h10, h11, hlt, hw, hq, hq0, hq2, hy, hy0, ea]
      refine hI _ _ ⟨by omega, by simp -implicitDefEqProofs only [ev0, ev1, ev2, ev3, ev4, ev5, ev6, ev7, evx, if_true, if_false, Nat.reduceEqDiff, Nat.reduceAdd, Nat.reduceMul, Nat.reduceSub, ↓reduceIte, reduceCtorEq, Nat.reduceLeDiff, Nat.reduceLT, Int.reduceLE, Int.reduceLT, Int.reduceEq, Int.reduceNeg, Int.reduceToNat, h0], by simp -implicitDefEqProofs only [ev0, ev1, ev2, ev3, ev4, ev5, ev6, ev7, evx, if_true, if_false, Nat.reduceEqDiff, Nat.reduceAdd, Nat.reduceMul, Nat.reduceSub, ↓reduceIte, reduceCtorEq, Nat.reduceLeDiff, Nat.reduceLT, Int.reduceLE, Int.reduceLT, Int.reduceEq, Int.reduceNeg, Int.reduceToNat, h1], by simp -implicitDefEqProofs only [ev0, ev1, ev2, ev3, ev4, ev5, ev6, ev7, evx, if_true, if_false, Nat.reduceEqDiff, Nat.reduceAdd, Nat.reduceMul, Nat.reduceSub, ↓reduceIte, reduceCtorEq, Nat.reduceLeDiff, Nat.reduceLT, Int.reduceLE, Int.reduceLT, Int.reduceEq, Int.reduceNeg, Int.reduceToNat, h2], by simp -implicitDefEqProofs only [ev0, ev1, ev2, ev3, ev4, ev5, ev6, ev7, evx, if_true, if_false, Nat.reduceEqDiff, Nat.reduceAdd, Nat.reduceMul, Nat.reduceSub, ↓reduceIte, reduceCtorEq, Nat.reduceLeDiff, Nat.reduceLT, Int.reduceLE, Int.reduceLT, Int.reduceEq, Int.reduceNeg, Int.reduceToNat], h3, m + 2, .slc (some (m + 1, 0)) (len + 1) (len + 1) 111 .tail, l ++ [(i, y)], len + 1, by simp -implicitDefEqProofs only [ev0, ev1, ev2, ev3, ev4, ev5, ev6, ev7, evx, if_true, if_false, Nat.reduceEqDiff, Nat.reduceAdd, Nat.reduceMul, Nat.reduceSub, ↓reduceIte, reduceCtorEq, Nat.reduceLeDiff, Nat.reduceLT, Int.reduceLE, Int.reduceLT, Int.reduceEq, Int.reduceNeg, Int.reduceToNat], rfl, by omega, ef, by rw [hst, hcs], by rw [hlen, List.length_append]; rfl, ?_, ?_, fun b e => by cases e; omega⟩
      · have := (cstep_8 (s := few s) (k := 0) hh8 i (by omega)).1
        have h3 : upTo (cStep (few s) hh) i ([] : List (Nat × Nat)) = l ++ [(i, y)] := by rw [← hcs, ← hst, Nat.add_sub_cancel]
        rw [h3, List.length_append, List.length_singleton] at this
        omega
      · rw [cl2_app]; exact eg
    · have hcs : cStep (few s) hh i l = l := by
        unfold cStep few
        rw [if_neg (by omega)]
      simp -implicitDefEqProofs only [a43_L0, ev0, ev1, ev2, ev3, ev4, ev5, ev6, ev7, evx, if_true, if_false, Nat.reduceEqDiff, Nat.reduceAdd, Nat.reduceMul, Nat.reduceSub, ↓reduceIte, reduceCtorEq, Nat.reduceLeDiff, Nat.reduceLT, Int.reduceLE, Int.reduceLT, Int.reduceEq, Int.reduceNeg, Int.reduceToNat, fold_min, h0, h1, h2, h10, h11, hlt, hw, hq, hq0, hq2, c]
      exact hI _ _ ⟨by omega, by simp -implicitDefEqProofs only [ev0, ev1, ev2, ev3, ev4, ev5, ev6, ev7, evx, if_true, if_false, Nat.reduceEqDiff, Nat.reduceAdd, Nat.reduceMul, Nat.reduceSub, ↓reduceIte, reduceCtorEq, Nat.reduceLeDiff, Nat.reduceLT, Int.reduceLE, Int.reduceLT, Int.reduceEq, Int.reduceNeg, Int.reduceToNat, h0], by simp -implicitDefEqProofs only [ev0, ev1, ev2, ev3, ev4, ev5, ev6, ev7, evx, if_true, if_false, Nat.reduceEqDiff, Nat.reduceAdd, Nat.reduceMul, Nat.reduceSub, ↓reduceIte, reduceCtorEq, Nat.reduceLeDiff, Nat.reduceLT, Int.reduceLE, Int.reduceLT, Int.reduceEq, Int.reduceNeg, Int.reduceToNat, h1], by simp -implicitDefEqProofs only [ev0, ev1, ev2, ev3, ev4, ev5, ev6, ev7, evx, if_true, if_false, Nat.reduceEqDiff, Nat.reduceAdd, Nat.reduceMul, Nat.reduceSub, ↓reduceIte, reduceCtorEq, Nat.reduceLeDiff, Nat.reduceLT, Int.reduceLE, Int.reduceLT, Int.reduceEq, Int.reduceNeg, Int.reduceToNat, h2], by simp -implicitDefEqProofs only [ev0, ev1, ev2, ev3, ev4, ev5, ev6, ev7, evx, if_true, if_false, Nat.reduceEqDiff, Nat.reduceAdd, Nat.reduceMul, Nat.reduceSub, ↓reduceIte, reduceCtorEq, Nat.reduceLeDiff, Nat.reduceLT, Int.reduceLE, Int.reduceLT, Int.reduceEq, Int.reduceNeg, Int.reduceToNat], hp, m, Q, l, len, by simp -implicitDefEqProofs only [ev0, ev1, ev2, ev3, ev4, ev5, ev6, ev7, evx, if_true, if_false, Nat.reduceEqDiff, Nat.reduceAdd, Nat.reduceMul, Nat.reduceSub, ↓reduceIte, reduceCtorEq, Nat.reduceLeDiff, Nat.reduceLT, Int.reduceLE, Int.reduceLT, Int.reduceEq, Int.reduceNeg, Int.reduceToNat, h10], rfl, hm, hfm, by rw [hst, hcs], hlen, hlen8, hg, hqb⟩
  · intro tm σ ⟨i1, h0, h1, h2, h11, hp, m, Q, l, len, h10, hσ, hm, hfm, hl, hlen, hlen8, hg, hqb⟩ S hQ
    subst hσ
    have hlt : ¬ ((w + 1 : Nat) : Int) ≤ (w : Int) := by omega
    rw [Nat.add_sub_cancel] at hl
    rw [hlen, hl] at hg
    simp -implicitDefEqProofs only [a43_L0, ev0, ev1, ev2, ev3, ev4, ev5, ev6, ev7, evx, if_true, if_false, Nat.reduceEqDiff, Nat.reduceAdd, Nat.reduceMul, Nat.reduceSub, ↓reduceIte, reduceCtorEq, Nat.reduceLeDiff, Nat.reduceLT, Int.reduceLE, Int.reduceLT, Int.reduceEq, Int.reduceNeg, Int.reduceToNat, h1, h11, hlt]
    exact hQ _ _ _ (by simp) ⟨rfl, hp, m, Q, by simp -implicitDefEqProofs only [ev0, ev1, ev2, ev3, ev4, ev5, ev6, ev7, evx, if_true, if_false, Nat.reduceEqDiff, Nat.reduceAdd, Nat.reduceMul, Nat.reduceSub, ↓reduceIte, reduceCtorEq, Nat.reduceLeDiff, Nat.reduceLT, Int.reduceLE, Int.reduceLT, Int.reduceEq, Int.reduceNeg, Int.reduceToNat, h10], rfl, hm, hfm, hg⟩

theorem fold_8 : ∀ (rest : List (Nat × Nat)) (o : Nat × Nat), (o.1 ≤ 8 ∧ o.2 ≤ 8) → (∀ p ∈ rest, p.1 ≤ 8 ∧ p.2 ≤ 8) → (rest.foldl bstep o).1 ≤ 8 ∧ (rest.foldl bstep o).2 ≤ 8
  | [], _, ho, _ => ho
  | x :: rest, o, ho, hr => by
    refine fold_8 rest (bstep o x) ?_ fun p hp => hr p (List.mem_cons_of_mem _ hp)
    unfold bstep
    split
    · exact hr x (by simp)
    · exact ho
theorem best_8 {l : List (Nat × Nat)} (h : ∀ p ∈ l, p.1 ≤ 8 ∧ p.2 ≤ 8) : (bestOf l).1 ≤ 8 ∧ (bestOf l).2 ≤ 8 := by
  match l with
  | [] => exact ⟨by decide, by decide⟩
  | x :: rest => exact fold_8 rest x (h x (by simp)) fun p hp => h p (List.mem_cons_of_mem _ hp)
theorem within_2 {lo hi a1 a2 : Int} {b c e : Nat} {ck : CK} {ro : Bool} (hf : Fresh (h.put b (some (.cells [.int .i64 a1, .int .i64 a2] ro))) n) :
    (lim ft (oraOf 18 true)).call (.fn 69 [] []) [.int .i64 lo, .int .i64 hi, .slc (some (b, 0)) 2 c e ck] ⟨h.put b (some (.cells [.int .i64 a1, .int .i64 a2] ro)), n, fl⟩ =
      some (.bool (inB lo hi a1 && inB lo hi a2), ⟨h.put b (some (.cells [.int .i64 a1, .int .i64 a2] ro)), n, fl⟩) := by
  have := within_list (lo := lo) (hi := hi) (l := [a1, a2]) (e := e) (ck := ck) (c := c) (fl := fl) (by simp) hget_eq hf
  simpa [ints, Bool.and_assoc] using this
theorem bm_call {s w hh : Int} (hf : Fresh h n) (hs2 : s ≤ 9223372036854775807) : (lim ft (oraOf 18 true)).call (.fn 43 [] []) [.int .i64 s, .int .i64 w, .int .i64 hh] ⟨h, n, fl⟩ = some (mostV s w hh, ⟨h, n, fl⟩) := by
  refine pure_call rfl (by rfl) rfl rfl mostV_plain ?_
  have f1 : Fresh (h.put n (some (.cells [.int .i64 w, .int .i64 hh] false))) (n + 1) := hf.put (by omega) (by omega)
  have c1 := within_2 (lo := 1) (hi := 8) (c := 2) (e := 3) (ck := .exact) (fl := n) f1
  unfold mostV
  by_cases p : 1 ≤ w ∧ w ≤ 8 ∧ 1 ≤ hh ∧ hh ≤ 8
  · have p' : (inB 1 8 w && inB 1 8 hh) = true := by simp [inB]; omega
    rw [p'] at c1
    rw [if_pos p]
    by_cases p5 : s < 4
    · rw [if_pos p5]; simp -implicitDefEqProofs only [a43, ev0, ev1, ev2, ev3, ev4, ev5, ev6, ev7, evx, if_true, if_false, Nat.reduceEqDiff, Nat.reduceAdd, Nat.reduceMul, Nat.reduceSub, ↓reduceIte, reduceCtorEq, Nat.reduceLeDiff, Nat.reduceLT, Int.reduceLE, Int.reduceLT, Int.reduceEq, Int.reduceNeg, Int.reduceToNat, resV_4, four_s, c1, p5]
    rw [if_neg p5]
    obtain ⟨w', rfl⟩ : ∃ w' : Nat, w = w' := ⟨w.toNat, by omega⟩
    obtain ⟨h', rfl⟩ : ∃ h' : Nat, hh = h' := ⟨hh.toNat, by omega⟩
    rw [Int.toNat_natCast, Int.toNat_natCast]
    have hq : s.tdiv 2 = s / 2 := Int.tdiv_eq_ediv_of_nonneg (by omega)
    have hq' : wrapF .i64 (s.tdiv 2) = s / 2 := by rw [hq, wrap64 (by omega) (by omega)]
    simp -implicitDefEqProofs only [a43, ev0, ev1, ev2, ev3, ev4, ev5, ev6, ev7, evx, if_true, if_false, Nat.reduceEqDiff, Nat.reduceAdd, Nat.reduceMul, Nat.reduceSub, ↓reduceIte, reduceCtorEq, Nat.reduceLeDiff, Nat.reduceLT, Int.reduceLE, Int.reduceLT, Int.reduceEq, Int.reduceNeg, Int.reduceToNat, c1, p5]
    generalize hT : T.put _ 11 _ = T0
    obtain ⟨x, tm2, σ2, el, rfl, h2, m2, Q, t10, rfl, hm2, hf2, hg⟩ := all_L0 (tm := T0) (fl := n) (s := s) (w := w') (hh := h') (by omega) hs2 (by omega) (by omega) hq' (by omega) (by omega) f1 (by omega) (by subst hT; simp -implicitDefEqProofs only [ev0, ev1, ev2, ev3, ev4, ev5, ev6, ev7, evx, if_true, if_false, Nat.reduceEqDiff, Nat.reduceAdd, Nat.reduceMul, Nat.reduceSub, ↓reduceIte, reduceCtorEq, Nat.reduceLeDiff, Nat.reduceLT, Int.reduceLE, Int.reduceLT, Int.reduceEq, Int.reduceNeg, Int.reduceToNat]) (by subst hT; simp -implicitDefEqProofs only [ev0, ev1, ev2, ev3, ev4, ev5, ev6, ev7, evx, if_true, if_false, Nat.reduceEqDiff, Nat.reduceAdd, Nat.reduceMul, Nat.reduceSub, ↓reduceIte, reduceCtorEq, Nat.reduceLeDiff, Nat.reduceLT, Int.reduceLE, Int.reduceLT, Int.reduceEq, Int.reduceNeg, Int.reduceToNat]) (by subst hT; simp -implicitDefEqProofs only [ev0, ev1, ev2, ev3, ev4, ev5, ev6, ev7, evx, if_true, if_false, Nat.reduceEqDiff, Nat.reduceAdd, Nat.reduceMul, Nat.reduceSub, ↓reduceIte, reduceCtorEq, Nat.reduceLeDiff, Nat.reduceLT, Int.reduceLE, Int.reduceLT, Int.reduceEq, Int.reduceNeg, Int.reduceToNat]) (by subst hT; simp -implicitDefEqProofs only [ev0, ev1, ev2, ev3, ev4, ev5, ev6, ev7, evx, if_true, if_false, Nat.reduceEqDiff, Nat.reduceAdd, Nat.reduceMul, Nat.reduceSub, ↓reduceIte, reduceCtorEq, Nat.reduceLeDiff, Nat.reduceLT, Int.reduceLE, Int.reduceLT, Int.reduceEq, Int.reduceNeg, Int.reduceToNat]) (by subst hT; simp -implicitDefEqProofs only [ev0, ev1, ev2, ev3, ev4, ev5, ev6, ev7, evx, if_true, if_false, Nat.reduceEqDiff, Nat.reduceAdd, Nat.reduceMul, Nat.reduceSub, ↓reduceIte, reduceCtorEq, Nat.reduceLeDiff, Nat.reduceLT, Int.reduceLE, Int.reduceLT, Int.reduceEq, Int.reduceNeg, Int.reduceToNat])
    have c8 := cstep_8 (s := few s) (k := 0) (hh := h') (by omega) w' (by omega)
    obtain ⟨ms, mne⟩ := most_same (s := few s) (w := w') (h := h') (by unfold few; omega) (by unfold few; omega) (by omega) (by omega) (by omega) (by omega)
    have eb := best_call (fl := n) (l := cAll (few s) h' w') (by have := c8.1; unfold cAll; omega) mne c8.2 hf2 hg
    have hb8 : (bestOf (cAll (few s) h' w')).1 * (bestOf (cAll (few s) h' w')).2 ≤ 64 := by
      have b8 := best_8 c8.2
      exact Nat.mul_le_mul b8.1 b8.2
    rw [← ms]
    generalize bestOf (cAll (few s) h' w') = o at eb hb8
    obtain ⟨ox, oy⟩ := o
    have w1 : wrapF .i64 ((ox : Int) * (oy : Int)) = ((ox * oy : Nat) : Int) := by dsimp only at hb8; rw [← Int.natCast_mul, wrap64 (by omega) (by omega)]
    simp only [pr2] at eb
    have flm : n ≤ m2 := by omega
    simp -implicitDefEqProofs only [el, ev0, ev1, ev2, ev3, ev4, ev5, ev6, ev7, evx, if_true, if_false, Nat.reduceEqDiff, Nat.reduceAdd, Nat.reduceMul, Nat.reduceSub, ↓reduceIte, reduceCtorEq, Nat.reduceLeDiff, Nat.reduceLT, Int.reduceLE, Int.reduceLT, Int.reduceEq, Int.reduceNeg, Int.reduceToNat, resV_4, four_s, t10, eb, w1, flm]
  · have p' : (inB 1 8 w && inB 1 8 hh) = false := by
      rw [Bool.eq_false_iff]; intro hc; simp [inB] at hc; omega
    rw [p'] at c1
    rw [if_neg p]
    simp -implicitDefEqProofs only [a43, ev0, ev1, ev2, ev3, ev4, ev5, ev6, ev7, evx, if_true, if_false, Nat.reduceEqDiff, Nat.reduceAdd, Nat.reduceMul, Nat.reduceSub, ↓reduceIte, reduceCtorEq, Nat.reduceLeDiff, Nat.reduceLT, Int.reduceLE, Int.reduceLT, Int.reduceEq, Int.reduceNeg, Int.reduceToNat, resV_4, four_s, c1]

theorem mosts_call {s w hh : Int} (hf : Fresh h n) (hs2 : s ≤ 9223372036854775807) : (lim ft (oraOf 18 true)).call (.fn 7 [] []) [.int .i64 s, .int .i64 w, .int .i64 hh] ⟨h, n, fl⟩ = some (.bool true, ⟨h, n, fl⟩) := by
  refine pure_call rfl (by rfl) rfl rfl rfl ?_
  have e1 := bm_call (w := w) (hh := hh) (fl := n) hf hs2
  have e2 := @ref_call (h := h) (n := n) (fl := n) (s := s) (w := w) (hh := hh)
  have e10 := @works_call
  obtain ⟨a, b, c, d, e⟩ : ∃ a b c d : Int, mostV s w hh = .tup [.int .i64 a, .int .i64 b, .int .i64 c, .int .i64 d] := by
    unfold mostV
    split
    · split
      · exact ⟨_, _, _, _, rfl⟩
      · exact ⟨_, _, _, _, rfl⟩
    · exact ⟨_, _, _, _, rfl⟩
  rw [e] at e1 e2
  simp -implicitDefEqProofs only [a7, ev0, ev1, ev2, ev3, ev4, ev5, ev6, ev7, evx, if_true, if_false, Nat.reduceEqDiff, Nat.reduceAdd, Nat.reduceMul, Nat.reduceSub, ↓reduceIte, reduceCtorEq, Nat.reduceLeDiff, Nat.reduceLT, Int.reduceLE, Int.reduceLT, Int.reduceEq, Int.reduceNeg, Int.reduceToNat, e1, e2, e10]
end
end Go.AM
