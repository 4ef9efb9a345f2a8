/- Rivers of the same shape: moved by some days, or scaled. -/
import Derived.Test.YtidlikbpbkgbaaaDA
import Derived.Test.YtidlikbpbkgbaaaDC
set_option linter.all false
set_option linter.unusedVariables false
set_option linter.unusedSimpArgs false
set_option linter.unusedSectionVars false
namespace Go.AM

/-- Each reach changed in the same way. -/
def River.mapR (R : River) (days : Int) (f : Reach → Reach) : River := ⟨days, R.rs.map f⟩
theorem mapR_len (R : River) (days : Int) (f : Reach → Reach) : (R.mapR days f).rs.length = R.rs.length := by simp [River.mapR]
theorem mapR_at {R : River} {days : Int} {f : Reach → Reach} {i : Nat} (hi : i < R.rs.length) : (R.mapR days f).at i = f (R.at i) := by
  unfold River.at River.mapR
  simp [List.getD_eq_getElem?_getD, hi]
def Reach.moved (k : Int) (r : Reach) : Reach := ⟨r.down, r.pass, r.takes, r.lo + k, r.hi + k, r.every, r.logs, r.ready + k⟩
def River.moved (R : River) (k : Nat) : River := R.mapR (R.days + k) (Reach.moved k)
theorem moved_valid {R : River} (hv : Valid R) {k : Nat} (hk : R.days + k ≤ 40) : Valid (R.moved k) := by
  refine valid_of (by show 1 ≤ R.days + k; have := hv.d1; omega) hk (by rw [River.moved, mapR_len]; exact hv.l1) (by rw [River.moved, mapR_len]; exact hv.l2) fun i hi => ?_
  rw [River.moved, mapR_len] at hi
  rw [River.moved, mapR_at hi, mapR_len]
  have ok := hv.ok hi
  exact ⟨hv.dn hi, ok.p1, ok.p2, ok.t1, ok.t2, ok.e1, ok.e2, by have := ok.w1; show 1 ≤ (R.at i).lo + k; omega, by have := ok.w2; show (R.at i).hi + k ≤ R.days + k; omega, by have := ok.w3; show (R.at i).lo + k ≤ (R.at i).hi + k; omega, ok.l1, ok.l2, by have := ok.r1; show 1 ≤ (R.at i).ready + k; omega, by have := ok.r2; show (R.at i).ready + k ≤ R.days + k; omega⟩
theorem open_moved (x : Reach) (k d : Int) : isOpen (x.moved k) (d + k) = isOpen x d := by
  unfold isOpen Reach.moved
  have e1 : decide (x.lo + k ≤ d + k) = decide (x.lo ≤ d) := by rw [decide_eq_decide]; omega
  have e2 : decide (d + k ≤ x.hi + k) = decide (d ≤ x.hi) := by rw [decide_eq_decide]; omega
  have e3 : d + k - (x.lo + k) = d - x.lo := by omega
  dsimp only
  rw [e1, e2, e3]
theorem ent_early {R : River} (hv : Valid R) {k i : Nat} (hi : i < R.rs.length) : ∀ d, d ≤ k → ent (R.moved k) i d = 0
  | 0, _ => ent_zero _ _
  | d + 1, hd => by
    have ok := hv.ok hi
    have hc : isOpen ((R.moved k).at i) ((d : Int) + 1) = false := by
      rw [River.moved, mapR_at hi, show (d : Int) + 1 = ((d : Int) + 1 - k) + k by omega, open_moved]
      have := ok.w1
      unfold isOpen
      rw [show decide ((R.at i).lo ≤ (d : Int) + 1 - k) = false by rw [decide_eq_false_iff_not]; omega]; rfl
    rw [ent_succ, hc]
    exact ent_early hv hi d (by omega)
theorem com_of {R : River} (hv : Valid R) {k i : Nat} (hi : i < R.rs.length) (h : ∀ u, u < i → ∀ d, ent (R.moved k) u (d + k) = ent R u d) (d : Nat) : com (R.moved k) i (d + k) = com R i d := by
  unfold com
  rw [show (R.moved k).at i = (R.at i).moved k from mapR_at hi]
  have e1 : (if ((R.at i).moved k).ready ≤ ((d + k : Nat) : Int) then ((R.at i).moved k).logs else 0) = (if (R.at i).ready ≤ (d : Int) then (R.at i).logs else 0) := by
    have : (((R.at i).moved k).ready ≤ ((d + k : Nat) : Int)) ↔ ((R.at i).ready ≤ (d : Int)) := by show (R.at i).ready + k ≤ _ ↔ _; omega
    simp only [this]; rfl
  rw [e1]
  congr 1
  refine sumTo_congr fun u hu => ?_
  rw [show (R.moved k).at u = (R.at u).moved k from mapR_at (by omega)]
  show (if (R.at u).down = (i : Int) then ent (R.moved k) u (d + k - (R.at u).takes.toNat) else 0) = _
  by_cases c : (R.at u).takes.toNat ≤ d
  · rw [show d + k - (R.at u).takes.toNat = (d - (R.at u).takes.toNat) + k by omega, h u hu]
  · rw [ent_early hv (show u < R.rs.length by omega) _ (by omega), show d - (R.at u).takes.toNat = 0 by omega, ent_zero]
theorem ent_moved {R : River} (hv : Valid R) {k : Nat} : ∀ i, i < R.rs.length → ∀ d, ent (R.moved k) i (d + k) = ent R i d := by
  intro i
  induction i using Nat.strongRecOn with
  | _ i ih =>
    intro hi d
    have hc := com_of (k := k) hv hi fun u hu => ih u hu (by omega)
    induction d with
    | zero => rw [ent_zero, Nat.zero_add]; exact ent_early hv hi k (Nat.le_refl _)
    | succ d ihd =>
      rw [show d + 1 + k = (d + k) + 1 by omega, ent_succ, ent_succ, ihd, show d + k + 1 = (d + 1) + k by omega, hc, show (R.moved k).at i = (R.at i).moved k from mapR_at hi,
        show (((d + k : Nat) : Int) + 1) = ((d : Int) + 1) + k by omega, open_moved]
      rfl
theorem com_moved {R : River} (hv : Valid R) {k i : Nat} (hi : i < R.rs.length) (d : Nat) : com (R.moved k) i (d + k) = com R i d := com_of hv hi (fun u hu => ent_moved hv u (by omega)) d
theorem bom_moved {R : River} (hv : Valid R) {k : Nat} (d : Nat) : bom (R.moved k) (d + k) = bom R d := by
  unfold bom
  rw [show (R.moved k).rs.length = R.rs.length from mapR_len _ _ _]
  refine sumTo_congr fun u hu => ?_
  rw [show (R.moved k).at u = (R.at u).moved k from mapR_at hu]
  show (if (R.at u).down = -1 then ent (R.moved k) u (d + k - (R.at u).takes.toNat) else 0) = _
  by_cases c : (R.at u).takes.toNat ≤ d
  · rw [show d + k - (R.at u).takes.toNat = (d - (R.at u).takes.toNat) + k by omega, ent_moved hv u hu]
  · rw [ent_early hv hu _ (by omega), show d - (R.at u).takes.toNat = 0 by omega, ent_zero]
theorem bom_early {R : River} (hv : Valid R) {k d : Nat} (hd : d ≤ k) : bom (R.moved k) d = 0 := by
  unfold bom
  rw [show (R.moved k).rs.length = R.rs.length from mapR_len _ _ _]
  exact sumTo_zero fun u hu => by rw [ent_early hv hu _ (by omega)]; split <;> rfl
/-- What is left above the reaches. -/
def leftL (R : River) (D k : Nat) : List Int := (List.range k).map fun i => com R i D - ent R i D
theorem left_moved {R : River} (hv : Valid R) {k D n : Nat} (hn : n ≤ R.rs.length) : leftL (R.moved k) (D + k) n = leftL R D n := by
  unfold leftL
  exact List.map_congr_left fun i hi => by
    have hi := List.mem_range.1 hi
    rw [com_moved hv (by omega), ent_moved hv i (by omega)]

/-- As many times as great. -/
def Reach.timed (t : Int) (r : Reach) : Reach := ⟨r.down, t * r.pass, r.takes, r.lo, r.hi, r.every, t * r.logs, r.ready⟩
def River.timed (R : River) (t : Int) : River := R.mapR R.days (Reach.timed t)
theorem sumTo_mul {f : Nat → Int} {t : Int} : ∀ {k : Nat}, sumTo (fun u => t * f u) k = t * sumTo f k
  | 0 => by show (0 : Int) = t * 0; rw [Int.mul_zero]
  | k + 1 => by
    show sumTo (fun u => t * f u) k + t * f k = t * (sumTo f k + f k)
    rw [sumTo_mul, Int.mul_add]
theorem min_mul {t a b : Int} (ht : 0 ≤ t) : min (t * a) (t * b) = t * min a b := by
  by_cases h : a ≤ b
  · have := Int.mul_le_mul_of_nonneg_left h ht
    rw [Int.min_eq_left h, Int.min_eq_left this]
  · have h' : b ≤ a := by omega
    have := Int.mul_le_mul_of_nonneg_left h' ht
    rw [Int.min_eq_right h', Int.min_eq_right this]
theorem com_of_t {R : River} {t : Int} {i : Nat} (hi : i < R.rs.length) (h : ∀ u, u < i → ∀ d, ent (R.timed t) u d = t * ent R u d) (d : Nat) : com (R.timed t) i d = t * com R i d := by
  unfold com
  rw [show (R.timed t).at i = (R.at i).timed t from mapR_at hi, Int.mul_add, ← sumTo_mul]
  congr 1
  · show (if (R.at i).ready ≤ (d : Int) then t * (R.at i).logs else 0) = _
    split
    · rfl
    · rw [Int.mul_zero]
  · refine sumTo_congr fun u hu => ?_
    rw [show (R.timed t).at u = (R.at u).timed t from mapR_at (by omega)]
    show (if (R.at u).down = (i : Int) then ent (R.timed t) u (d - (R.at u).takes.toNat) else 0) = _
    split
    · rw [h u hu]
    · rw [Int.mul_zero]
theorem ent_timed {R : River} {t : Int} (ht : 0 ≤ t) : ∀ i, i < R.rs.length → ∀ d, ent (R.timed t) i d = t * ent R i d := by
  intro i
  induction i using Nat.strongRecOn with
  | _ i ih =>
    intro hi d
    have hc := com_of_t (t := t) hi fun u hu => ih u hu (by omega)
    induction d with
    | zero => rw [ent_zero, ent_zero, Int.mul_zero]
    | succ d ihd =>
      rw [ent_succ, ent_succ, ihd, hc, show (R.timed t).at i = (R.at i).timed t from mapR_at hi]
      show (if isOpen (R.at i) ((d : Int) + 1) then min (t * ent R i d + t * (R.at i).pass) (t * com R i (d + 1)) else t * ent R i d) = _
      split
      · rw [← Int.mul_add, min_mul ht]
      · rfl
theorem bom_timed {R : River} {t : Int} (ht : 0 ≤ t) (d : Nat) : bom (R.timed t) d = t * bom R d := by
  unfold bom
  rw [show (R.timed t).rs.length = R.rs.length from mapR_len _ _ _, ← sumTo_mul]
  refine sumTo_congr fun u hu => ?_
  rw [show (R.timed t).at u = (R.at u).timed t from mapR_at hu]
  show (if (R.at u).down = -1 then ent (R.timed t) u (d - (R.at u).takes.toNat) else 0) = _
  split
  · rw [ent_timed ht u hu]
  · rw [Int.mul_zero]
end Go.AM
/- What is left; lists compared. -/
namespace Go.AM
open Go
noncomputable section
variable {tm tm' : T AV} {σ σ' : AS} {h h' : T AObj} {n n' fl : Nat} {v w : AV} {sl P C B : AV} {g : List Int}

theorem flatR_get {f : Nat → List Int} {k : Nat} (hf : ∀ i, (f i).length = k) {t i j : Nat} {a : Int} (hi : i < t) (ha : (f i)[j]? = some a) : (flatR f t)[i * k + j]? = some (.int .i64 a) := by
  have h1 := flatR_rd hf hi
  have hj : j < k := by have := (List.getElem?_eq_some_iff.1 ha).1; rw [hf] at this; exact this
  rw [rd_E] at h1
  by_cases c : i * k + k ≤ (flatR f t).length
  · simp only [c, decide_true, cond_true, Option.some.injEq] at h1
    have h2 : ((ints (f i)))[j]? = some (.int .i64 a) := ints_get ha
    rw [← h1, List.getElem?_take_of_lt hj, List.getElem?_drop] at h2
    exact h2
  · simp [c] at h1

theorem longs_L0 {l : List Int} (hl : l.length < 1000) (hs : SlI h v l) (hs2 : SlI h w l) (hf : Fresh h n) (h0 : tm.get 0 = some v) (h1 : tm.get 1 = some w) (h5 : tm.get 5 = some (.int .i64 0)) :
    Done ((lim ft (oraOf 10 true)).exec (.loop a19_L0) tm ⟨h, n, fl⟩) fun x tm' σ' => x = .exit 0 ∧ σ' = ⟨h, n, fl⟩ := by
  obtain ⟨a, c, e, ck, rfl⟩ := hs.shape ints_len
  obtain ⟨a2, c2, e2, ck2, rfl⟩ := hs2.shape ints_len
  refine loop_up (fun k tm σ => tm.get 0 = some (.slc a l.length c e ck) ∧ tm.get 1 = some (.slc a2 l.length c2 e2 ck2) ∧ tm.get 5 = some (.int .i64 (k : Int)) ∧ σ = ⟨h, n, fl⟩) _ l.length ?_ ?_ l.length 0 tm _ (by simp) ⟨h0, h1, h5, rfl⟩
  · intro k tm σ hk ⟨h0, h1, h5, hσ⟩ S hI hQ
    subst hσ
    have hlt : ((k : Int) < (l.length : Int)) := by omega
    have hw : wrapF .i64 ((k : Int) + 1) = ((k + 1 : Nat) : Int) := by rw [wrap64 (by omega) (by omega)]; omega
    obtain ⟨sb, o, c', e', ck', q1, q2, q3⟩ := hs.one hf (i := k) (ints_get (List.getElem?_eq_getElem hk)) ints_len
    obtain ⟨sb2, o2, c2', e2', ck2', q4, q5, q6⟩ := hs2.one hf (i := k) (ints_get (List.getElem?_eq_getElem hk)) ints_len
    cases q1; cases q4
    rw [Nat.mul_one] at q3 q6
    simp -implicitDefEqProofs only [a19_L0, ev0, ev1, ev2, ev3, ev4, ev5, ev6, ev7, evx, if_true, if_false, Nat.reduceEqDiff, Nat.reduceAdd, Nat.reduceMul, Nat.reduceSub, ↓reduceIte, reduceCtorEq, Nat.reduceLeDiff, Nat.reduceLT, Int.reduceLE, Int.reduceLT, Int.reduceEq, Int.reduceNeg, Int.reduceToNat, h0, h1, h5, hlt, hk, q3, q6, hw]
    exact hI _ _ ⟨by simp -implicitDefEqProofs only [ev0, ev1, ev2, ev3, ev4, ev5, ev6, ev7, evx, if_true, if_false, Nat.reduceEqDiff, Nat.reduceAdd, Nat.reduceMul, Nat.reduceSub, ↓reduceIte, reduceCtorEq, Nat.reduceLeDiff, Nat.reduceLT, Int.reduceLE, Int.reduceLT, Int.reduceEq, Int.reduceNeg, Int.reduceToNat, h0], by simp -implicitDefEqProofs only [ev0, ev1, ev2, ev3, ev4, ev5, ev6, ev7, evx, if_true, if_false, Nat.reduceEqDiff, Nat.reduceAdd, Nat.reduceMul, Nat.reduceSub, ↓reduceIte, reduceCtorEq, Nat.reduceLeDiff, Nat.reduceLT, Int.reduceLE, Int.reduceLT, Int.reduceEq, Int.reduceNeg, Int.reduceToNat, h1], by simp -implicitDefEqProofs only [ev0, ev1, ev2, ev3, ev4, ev5, ev6, ev7, evx, if_true, if_false, Nat.reduceEqDiff, Nat.reduceAdd, Nat.reduceMul, Nat.reduceSub, ↓reduceIte, reduceCtorEq, Nat.reduceLeDiff, Nat.reduceLT, Int.reduceLE, Int.reduceLT, Int.reduceEq, Int.reduceNeg, Int.reduceToNat], rfl⟩
  · intro tm σ ⟨h0, h1, h5, hσ⟩ S hQ
    subst hσ
    have hlt : ¬ ((l.length : Int) < (l.length : Int)) := by omega
    simp -implicitDefEqProofs only [a19_L0, ev0, ev1, ev2, ev3, ev4, ev5, ev6, ev7, evx, if_true, if_false, Nat.reduceEqDiff, Nat.reduceAdd, Nat.reduceMul, Nat.reduceSub, ↓reduceIte, reduceCtorEq, Nat.reduceLeDiff, Nat.reduceLT, Int.reduceLE, Int.reduceLT, Int.reduceEq, Int.reduceNeg, Int.reduceToNat, h0, h5, hlt]
    exact hQ _ _ _ (by simp) ⟨rfl, rfl⟩
theorem longs_call {l : List Int} (hl : l.length < 1000) (hs : SlI h v l) (hs2 : SlI h w l) (hf : Fresh h n) : (lim ft (oraOf 10 true)).call (.fn 19 [] []) [v, w] ⟨h, n, fl⟩ = some (.bool true, ⟨h, n, fl⟩) := by
  obtain ⟨a, c, e, ck, rfl⟩ := hs.shape ints_len
  obtain ⟨a2, c2, e2, ck2, rfl⟩ := hs2.shape ints_len
  refine pure_call rfl (by rfl) rfl rfl rfl ?_
  simp -implicitDefEqProofs only [a19, ev0, ev1, ev2, ev3, ev4, ev5, ev6, ev7, evx, if_true, if_false, Nat.reduceEqDiff, Nat.reduceAdd, Nat.reduceMul, Nat.reduceSub, ↓reduceIte, reduceCtorEq, Nat.reduceLeDiff, Nat.reduceLT, Int.reduceLE, Int.reduceLT, Int.reduceEq, Int.reduceNeg, Int.reduceToNat]
  generalize hT : T.put _ 5 _ = T0
  obtain ⟨x, tm', σ', e1, rfl, rfl⟩ := longs_L0 (tm := T0) (fl := n) (n := n) (h := h) hl hs hs2 hf (by subst hT; simp -implicitDefEqProofs only [ev0, ev1, ev2, ev3, ev4, ev5, ev6, ev7, evx, if_true, if_false, Nat.reduceEqDiff, Nat.reduceAdd, Nat.reduceMul, Nat.reduceSub, ↓reduceIte, reduceCtorEq, Nat.reduceLeDiff, Nat.reduceLT, Int.reduceLE, Int.reduceLT, Int.reduceEq, Int.reduceNeg, Int.reduceToNat]) (by subst hT; simp -implicitDefEqProofs only [ev0, ev1, ev2, ev3, ev4, ev5, ev6, ev7, evx, if_true, if_false, Nat.reduceEqDiff, Nat.reduceAdd, Nat.reduceMul, Nat.reduceSub, ↓reduceIte, reduceCtorEq, Nat.reduceLeDiff, Nat.reduceLT, Int.reduceLE, Int.reduceLT, Int.reduceEq, Int.reduceNeg, Int.reduceToNat]) (by subst hT; simp -implicitDefEqProofs only [ev0, ev1, ev2, ev3, ev4, ev5, ev6, ev7, evx, if_true, if_false, Nat.reduceEqDiff, Nat.reduceAdd, Nat.reduceMul, Nat.reduceSub, ↓reduceIte, reduceCtorEq, Nat.reduceLeDiff, Nat.reduceLT, Int.reduceLE, Int.reduceLT, Int.reduceEq, Int.reduceNeg, Int.reduceToNat])
  simp -implicitDefEqProofs only [e1, ev0, ev1, ev2, ev3, ev4, ev5, ev6, ev7, evx, if_true, if_false, Nat.reduceEqDiff, Nat.reduceAdd, Nat.reduceMul, Nat.reduceSub, ↓reduceIte, reduceCtorEq, Nat.reduceLeDiff, Nat.reduceLT, Int.reduceLE, Int.reduceLT, Int.reduceEq, Int.reduceNeg, Int.reduceToNat]

theorem slv_nil {k e : Nat} {s : Sz} {ck : CK} : SlV h k s (.slc none 0 0 e ck) [] := ⟨none, 0, e, ck, rfl, fun i x hx => by simp at hx⟩
theorem GrowSl.sli {et len : Nat} {s : AV} {l : List Int} (hg : GrowSl h et 1 s len (ints l)) : SlI h s l := by
  have hl : l.length = len := by have := hg.size; rw [ints_len] at this; omega
  subst hl
  by_cases c : 0 < l.length
  · obtain ⟨b, ck, rfl, hb⟩ := hg.shape c
    have := SlV.block1 (e := et) (ck := ck) (c := l.length) hb
    rw [ints_len] at this
    exact this
  · have hl0 : l = [] := List.length_eq_zero_iff.1 (by omega)
    subst hl0
    rcases hg.here with ⟨et', rfl, _, _⟩ | ⟨b, ck, rfl, _, hb⟩
    · exact slv_nil
    · exact SlV.block1 (xs := []) hb

theorem left_L0 {R : River} {D y : Nat} (hv : Valid R) (hd : R.days = (D : Int)) {m0 : Nat} (hfl : fl ≤ n) (hy : Year R D n sl h' h m0 y P C B) (hyn : y < m0)
    (hbox : h.get n' = some (.cells [.int .i64 R.days, v] false)) (hnm : n' < m0)
    (h1 : tm.get 1 = some (.ptr (some (n', 0)))) (h5 : tm.get 5 = some (.ptr (some (y, 0)))) (h6 : tm.get 6 = some (.slc none 0 0 0 .exact)) (h17 : tm.get 17 = some (.int .i64 R.rs.length)) (h18 : tm.get 18 = some (.int .i64 0)) :
    Done ((lim ft (oraOf 10 true)).exec (.loop a18_L0) tm ⟨h, m0, fl⟩) fun x tm' σ' => x = .exit 0 ∧ ∃ h2 m2 Q, tm'.get 6 = some Q ∧ σ' = ⟨h2, m2, fl⟩ ∧ m0 ≤ m2 ∧ Fresh h2 m2 ∧ Agree m0 h h2 ∧ GrowSl h2 2 1 Q R.rs.length (ints (leftL R D R.rs.length)) := by
  have hfl0 := hy.le
  have hl1 := hv.l1
  have hl8 := hv.l2
  obtain ⟨cb, ck, hCe, hcb⟩ := hy.com.shape (by omega)
  have hcbm : cb < m0 := hy.fresh _ _ hcb
  refine loop_up (fun k tm σ => tm.get 1 = some (.ptr (some (n', 0))) ∧ tm.get 5 = some (.ptr (some (y, 0))) ∧ tm.get 17 = some (.int .i64 R.rs.length) ∧ tm.get 18 = some (.int .i64 (k : Int)) ∧
      ∃ h2 m2 Q, tm.get 6 = some Q ∧ σ = ⟨h2, m2, fl⟩ ∧ m0 ≤ m2 ∧ Fresh h2 m2 ∧ Agree m0 h h2 ∧ GrowSl h2 2 1 Q k (ints (leftL R D k)) ∧ ∀ b, blkOf Q = some b → m0 ≤ b) _ R.rs.length ?_ ?_
    R.rs.length 0 tm _ (by simp) ⟨h1, h5, h17, h18, h, m0, _, h6, rfl, Nat.le_refl _, hy.fresh, Agree.refl, GrowSl.nil, fun b e => by cases e⟩
  · intro k tm σ hk ⟨h1, h5, h17, h18, h2, m2, Q, h6, hσ, hm, hf, ha, hg, hb⟩ S hI hQ
    subst hσ
    have hlt : ((k : Int) < (R.rs.length : Int)) := by omega
    have hw : wrapF .i64 ((k : Int) + 1) = ((k + 1 : Nat) : Int) := by rw [wrap64 (by omega) (by omega)]; omega
    have hdl : D < D + 1 := by omega
    have hk8 : k < 8 := by omega
    have b1 : h2.get n' = some (.cells [.int .i64 (D : Int), v] false) := by rw [ha _ hnm, hbox, hd]
    have b2 : h2.get y = some (.cells (yearCells R.days sl P (.slc (some (cb, 0)) (D + 1) (D + 1) 64 ck) B (gL R (D + 1) 0)) false) := by rw [ha _ hyn, hy.year, hCe]
    have b3 : h2.get cb = some (.cells (flatR (rowL R) (D + 1)) false) := by rw [ha _ hcbm, hcb]
    have b4 : (flatR (rowL R) (D + 1))[D * 8 + k]? = some (.int .i64 (com R k D)) := flatR_get (rowL_len R) (by omega) (by unfold rowL; rw [List.getElem?_map, List.getElem?_range hk8]; simp [hk])
    have b5 : (ints (gL R (D + 1) 0))[k]? = some (.int .i64 (ent R k D)) := ints_i (by unfold gL; rw [List.getElem?_map, List.getElem?_range hk8]; simp [hk])
    have c1 := com_le hv hk D
    have c2 := ent_le hv hk D
    have c3 := ent_nn hv k D
    have c4 : 0 ≤ com R k D := by have := (ent_facts hv.nonneg k D).2.2.1; omega
    have ws : wrapF .i64 (com R k D - ent R k D) = com R k D - ent R k D := wrap64 (by omega) (by omega)
    have g2 := hg.put (b := m2) (o := some (.cells [.int .i64 (com R k D - ent R k D)] false)) fun e => by have := hg.lt hf e; omega
    have f2 := hf.put (b := m2) (o := some (.cells [.int .i64 (com R k D - ent R k D)] false)) (n' := m2 + 1) (by omega) (by omega)
    obtain ⟨h3, ea, eg, ef, ek⟩ := g2.append (fl := fl) (bytes := 8) (k := 1) (bx := m2) (ox := 0) (c := 1) (e := 2) (ck := .exact) (new := [.int .i64 (com R k D - ent R k D)]) (fun b hb' => by have := hb b hb'; omega) f2
      (by rw [hget_eq, rdk_s]; rfl) (by omega) (by omega) rfl rfl
    have nm : (n' = m2) = False := by simp; omega
    have ym : (y = m2) = False := by simp; omega
    have cm : (cb = m2) = False := by simp; omega
    simp -implicitDefEqProofs only [a18_L0, ev0, ev1, ev2, ev3, ev4, ev5, ev6, ev7, evx, if_true, if_false, Nat.reduceEqDiff, Nat.reduceAdd, Nat.reduceMul, Nat.reduceSub, ↓reduceIte, reduceCtorEq, Nat.reduceLeDiff, Nat.reduceLT, Int.reduceLE, Int.reduceLT, Int.reduceEq, Int.reduceNeg, Int.reduceToNat, h1, h5, h6, h17, h18, hlt, hw, b1, b2, b3, b4, b5, yc3, ycg, hdl, hk8, ws, ea]
    refine hI _ _ ⟨by simp -implicitDefEqProofs only [ev0, ev1, ev2, ev3, ev4, ev5, ev6, ev7, evx, if_true, if_false, Nat.reduceEqDiff, Nat.reduceAdd, Nat.reduceMul, Nat.reduceSub, ↓reduceIte, reduceCtorEq, Nat.reduceLeDiff, Nat.reduceLT, Int.reduceLE, Int.reduceLT, Int.reduceEq, Int.reduceNeg, Int.reduceToNat, h1], by simp -implicitDefEqProofs only [ev0, ev1, ev2, ev3, ev4, ev5, ev6, ev7, evx, if_true, if_false, Nat.reduceEqDiff, Nat.reduceAdd, Nat.reduceMul, Nat.reduceSub, ↓reduceIte, reduceCtorEq, Nat.reduceLeDiff, Nat.reduceLT, Int.reduceLE, Int.reduceLT, Int.reduceEq, Int.reduceNeg, Int.reduceToNat, h5], by simp -implicitDefEqProofs only [ev0, ev1, ev2, ev3, ev4, ev5, ev6, ev7, evx, if_true, if_false, Nat.reduceEqDiff, Nat.reduceAdd, Nat.reduceMul, Nat.reduceSub, ↓reduceIte, reduceCtorEq, Nat.reduceLeDiff, Nat.reduceLT, Int.reduceLE, Int.reduceLT, Int.reduceEq, Int.reduceNeg, Int.reduceToNat, h17], by simp -implicitDefEqProofs only [ev0, ev1, ev2, ev3, ev4, ev5, ev6, ev7, evx, if_true, if_false, Nat.reduceEqDiff, Nat.reduceAdd, Nat.reduceMul, Nat.reduceSub, ↓reduceIte, reduceCtorEq, Nat.reduceLeDiff, Nat.reduceLT, Int.reduceLE, Int.reduceLT, Int.reduceEq, Int.reduceNeg, Int.reduceToNat], h3, m2 + 2, .slc (some (m2 + 1, 0)) (k + 1) (k + 1) 2 .tail, by simp -implicitDefEqProofs only [ev0, ev1, ev2, ev3, ev4, ev5, ev6, ev7, evx, if_true, if_false, Nat.reduceEqDiff, Nat.reduceAdd, Nat.reduceMul, Nat.reduceSub, ↓reduceIte, reduceCtorEq, Nat.reduceLeDiff, Nat.reduceLT, Int.reduceLE, Int.reduceLT, Int.reduceEq, Int.reduceNeg, Int.reduceToNat], rfl, by omega, ef, fun b hb' => ?_, ?_, fun b e => by cases e; omega⟩
    · rw [ek b (by omega) (fun e => by have := hb b e; omega), hget_ne (by omega)]; exact ha b hb'
    · have : ints (leftL R D (k + 1)) = ints (leftL R D k) ++ [.int .i64 (com R k D - ent R k D)] := by
        unfold leftL ints; rw [List.range_succ]; simp
      rw [this]; exact eg
  · intro tm σ ⟨h1, h5, h17, h18, h2, m2, Q, h6, hσ, hm, hf, ha, hg, hb⟩ S hQ
    subst hσ
    have hlt : ¬ ((R.rs.length : Int) < (R.rs.length : Int)) := by omega
    simp -implicitDefEqProofs only [a18_L0, ev0, ev1, ev2, ev3, ev4, ev5, ev6, ev7, evx, if_true, if_false, Nat.reduceEqDiff, Nat.reduceAdd, Nat.reduceMul, Nat.reduceSub, ↓reduceIte, reduceCtorEq, Nat.reduceLeDiff, Nat.reduceLT, Int.reduceLE, Int.reduceLT, Int.reduceEq, Int.reduceNeg, Int.reduceToNat, h17, h18, hlt]
    exact hQ _ _ _ (by simp) ⟨rfl, h2, m2, Q, by simp -implicitDefEqProofs only [ev0, ev1, ev2, ev3, ev4, ev5, ev6, ev7, evx, if_true, if_false, Nat.reduceEqDiff, Nat.reduceAdd, Nat.reduceMul, Nat.reduceSub, ↓reduceIte, reduceCtorEq, Nat.reduceLeDiff, Nat.reduceLT, Int.reduceLE, Int.reduceLT, Int.reduceEq, Int.reduceNeg, Int.reduceToNat, h6], rfl, hm, hf, ha, hg⟩

theorem left_call {R : River} {D : Nat} (hd : R.days = (D : Int)) (hv : Valid R) (hr : RivAt h v R) (hf : Fresh h n) (hfl : fl ≤ n) :
    ∃ w σ', (lim ft (oraOf 10 true)).call (.fn 18 [] []) [v] ⟨h, n, fl⟩ = some (w, σ') ∧ ∃ h' n' Q, w = .tup [Q, .int .i64 0] ∧ σ' = ⟨h', n', fl⟩ ∧ n ≤ n' ∧ Fresh h' n' ∧ Agree n h h' ∧ SlI h' Q (leftL R D R.rs.length) := by
  obtain ⟨sl, rfl, hs⟩ := id hr
  obtain ⟨a, c, e, ck, rfl⟩ := hs.shape (List.length_map _)
  have hd2 := hv.d2
  have f1 : Fresh (h.put n (some (.cells [.int .i64 R.days, .slc a R.rs.length c e ck] false))) (n + 1) := hf.put (by omega) (by omega)
  have hs1 := hs.put (o := some (.cells [.int .i64 R.days, .slc a R.rs.length c e ck] false)) hf (Nat.le_refl _)
  have c1 := chk36_call (n := n + 1) (fl := fl) (v := .agg [.int .i64 R.days, .slc a R.rs.length c e ck]) ⟨_, rfl, hs1⟩ f1 hv (l := []) (s := .slc none 0 0 0 .exact) slv_nil (by simp) (by simp)
  obtain ⟨v1, σ1, e1, h3, n3, y, P, C, B, rfl, rfl, hy⟩ := early_call (n := n + 1) (fl := fl) hd hv hs1 f1 (by omega)
  have hyn : y < n3 := hy.fresh _ _ hy.year
  have hb : h3.get n = some (.cells [.int .i64 R.days, .slc a R.rs.length c e ck] false) := by rw [hy.frame n (by omega), hget_eq]
  have hle := hy.le
  refine call_done rfl (by rfl) rfl rfl fun S hS => ?_
  simp -implicitDefEqProofs only [a18, ev0, ev1, ev2, ev3, ev4, ev5, ev6, ev7, evx, if_true, if_false, Nat.reduceEqDiff, Nat.reduceAdd, Nat.reduceMul, Nat.reduceSub, ↓reduceIte, reduceCtorEq, Nat.reduceLeDiff, Nat.reduceLT, Int.reduceLE, Int.reduceLT, Int.reduceEq, Int.reduceNeg, Int.reduceToNat, c1, e1, hb]
  generalize hT : T.put _ 18 _ = T0
  obtain ⟨x, tm', σ', e2, rfl, h4, m4, Q, t6, rfl, hm, hf4, ha4, hg⟩ := left_L0 (tm := T0) (fl := fl) (n' := n) hv hd (by omega) hy hyn hb (by omega) (by subst hT; simp -implicitDefEqProofs only [ev0, ev1, ev2, ev3, ev4, ev5, ev6, ev7, evx, if_true, if_false, Nat.reduceEqDiff, Nat.reduceAdd, Nat.reduceMul, Nat.reduceSub, ↓reduceIte, reduceCtorEq, Nat.reduceLeDiff, Nat.reduceLT, Int.reduceLE, Int.reduceLT, Int.reduceEq, Int.reduceNeg, Int.reduceToNat]) (by subst hT; simp -implicitDefEqProofs only [ev0, ev1, ev2, ev3, ev4, ev5, ev6, ev7, evx, if_true, if_false, Nat.reduceEqDiff, Nat.reduceAdd, Nat.reduceMul, Nat.reduceSub, ↓reduceIte, reduceCtorEq, Nat.reduceLeDiff, Nat.reduceLT, Int.reduceLE, Int.reduceLT, Int.reduceEq, Int.reduceNeg, Int.reduceToNat]) (by subst hT; simp -implicitDefEqProofs only [ev0, ev1, ev2, ev3, ev4, ev5, ev6, ev7, evx, if_true, if_false, Nat.reduceEqDiff, Nat.reduceAdd, Nat.reduceMul, Nat.reduceSub, ↓reduceIte, reduceCtorEq, Nat.reduceLeDiff, Nat.reduceLT, Int.reduceLE, Int.reduceLT, Int.reduceEq, Int.reduceNeg, Int.reduceToNat]) (by subst hT; simp -implicitDefEqProofs only [ev0, ev1, ev2, ev3, ev4, ev5, ev6, ev7, evx, if_true, if_false, Nat.reduceEqDiff, Nat.reduceAdd, Nat.reduceMul, Nat.reduceSub, ↓reduceIte, reduceCtorEq, Nat.reduceLeDiff, Nat.reduceLT, Int.reduceLE, Int.reduceLT, Int.reduceEq, Int.reduceNeg, Int.reduceToNat]) (by subst hT; simp -implicitDefEqProofs only [ev0, ev1, ev2, ev3, ev4, ev5, ev6, ev7, evx, if_true, if_false, Nat.reduceEqDiff, Nat.reduceAdd, Nat.reduceMul, Nat.reduceSub, ↓reduceIte, reduceCtorEq, Nat.reduceLeDiff, Nat.reduceLT, Int.reduceLE, Int.reduceLT, Int.reduceEq, Int.reduceNeg, Int.reduceToNat])
  simp -implicitDefEqProofs only [e2, ev0, ev1, ev2, ev3, ev4, ev5, ev6, ev7, evx, if_true, if_false, Nat.reduceEqDiff, Nat.reduceAdd, Nat.reduceMul, Nat.reduceSub, ↓reduceIte, reduceCtorEq, Nat.reduceLeDiff, Nat.reduceLT, Int.reduceLE, Int.reduceLT, Int.reduceEq, Int.reduceNeg, Int.reduceToNat, t6]
  refine hS _ _ _ (.tup [Q, .int .i64 0]) (by simp) (by simp -implicitDefEqProofs only [a18, ev0, ev1, ev2, ev3, ev4, ev5, ev6, ev7, evx, if_true, if_false, Nat.reduceEqDiff, Nat.reduceAdd, Nat.reduceMul, Nat.reduceSub, ↓reduceIte, reduceCtorEq, Nat.reduceLeDiff, Nat.reduceLT, Int.reduceLE, Int.reduceLT, Int.reduceEq, Int.reduceNeg, Int.reduceToNat]) ⟨h4, m4, Q, rfl, rfl, by omega, hf4, fun b hb' => ?_, hg.sli⟩
  rw [ha4 b (by omega), hy.frame b (by omega), hget_ne (by omega)]
end
end Go.AM
