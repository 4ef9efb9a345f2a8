/- DriveMoved: a river some days later. -/
import Derived.Test.YtidlikbpbkgbaaaDD
import Derived.Test.YtidlikbpbkgbaaaL6
set_option linter.all false
set_option linter.unusedVariables false
set_option linter.unusedSimpArgs false
set_option linter.unusedSectionVars false
namespace Go.AM
open Go
noncomputable section
variable {tm tm' : T AV} {σ σ' : AS} {h h' : T AObj} {n n' fl : Nat} {v w : AV} {sl P C B : AV} {g : List Int}

theorem rc_snoc {rs : List Reach} {f : Reach → Reach} {i : Nat} (hi : i < rs.length) : cellsOf ((rs.take (i + 1)).map f) = cellsOf ((rs.take i).map f) ++ (f rs[i]).cl := by
  rw [List.take_succ_eq_append_getElem hi, List.map_append]
  unfold cellsOf
  rw [List.flatMap_append]; simp
theorem GrowSl.riv {len : Nat} {s : AV} {rs : List Reach} (hg : GrowSl h 31 8 s len (cellsOf rs)) (hl : 0 < rs.length) : SlV h 8 (some 8) s (rs.map Reach.av) := by
  have hl' : rs.length = len := by have := hg.size; rw [rc_len] at this; omega
  subst hl'
  obtain ⟨b, ck, rfl, hb⟩ := hg.shape hl
  exact SlV.flat hb

theorem mov_L0 {R : River} {k m0 : Nat} (hv : Valid R) (hk : R.days + k ≤ 40) (hs : SlV h 8 (some 8) sl (R.rs.map Reach.av)) (hf : Fresh h m0) (hn : n + 1 < m0) (hfl : fl ≤ n)
    (hsn : ∀ b, blkOf sl = some b → b < n)
    (hb : h.get n = some (.cells [.int .i64 R.days, sl] false)) (hb1 : h.get (n + 1) = some (.cells [.int .i64 (R.days + k), .slc none 0 0 31 .exact] false))
    (h3 : tm.get 3 = some (.ptr (some (n, 0)))) (h7 : tm.get 7 = some (.int .i64 (k : Int))) (h8 : tm.get 8 = some (.ptr (some (n + 1, 0)))) (h9 : tm.get 9 = some (.int .i64 0)) (h1 : tm.get 1 = some v) (h2 : tm.get 2 = some w) :
    Done ((lim ft (oraOf 10 true)).exec (.loop a5_L0) tm ⟨h, m0, fl⟩) fun x tm' σ' => x = .exit 0 ∧ ∃ h2 m2 Q, σ' = ⟨h2, m2, fl⟩ ∧ m0 ≤ m2 ∧ Fresh h2 m2 ∧ Agree (n + 1) h h2 ∧
      h2.get (n + 1) = some (.cells [.int .i64 (R.days + k), Q] false) ∧ GrowSl h2 31 8 Q R.rs.length (cellsOf (R.moved k).rs) ∧ tm'.get 3 = some (.ptr (some (n, 0))) ∧ tm'.get 7 = some (.int .i64 (k : Int)) ∧ tm'.get 8 = some (.ptr (some (n + 1, 0))) ∧ tm'.get 1 = some v ∧ tm'.get 2 = some w := by
  have hl1 := hv.l1
  have hl8 := hv.l2
  obtain ⟨a, c, e, ck, rfl⟩ := hs.shape (List.length_map _)
  refine loop_up (fun i tm σ => tm.get 3 = some (.ptr (some (n, 0))) ∧ tm.get 7 = some (.int .i64 (k : Int)) ∧ tm.get 8 = some (.ptr (some (n + 1, 0))) ∧ tm.get 9 = some (.int .i64 (i : Int)) ∧ tm.get 1 = some v ∧ tm.get 2 = some w ∧
      ∃ h2 m2 Q, σ = ⟨h2, m2, fl⟩ ∧ m0 ≤ m2 ∧ Fresh h2 m2 ∧ Agree (n + 1) h h2 ∧ h2.get (n + 1) = some (.cells [.int .i64 (R.days + k), Q] false) ∧ GrowSl h2 31 8 Q i (cellsOf ((R.rs.take i).map (Reach.moved k))) ∧ ∀ b, blkOf Q = some b → m0 ≤ b) _ R.rs.length ?_ ?_
    R.rs.length 0 tm _ (by simp) ⟨h3, h7, h8, h9, h1, h2, h, m0, _, rfl, Nat.le_refl _, hf, Agree.refl, hb1, GrowSl.nil, fun b e => by cases e⟩
  · intro i tm σ hi ⟨h3, h7, h8, h9, h1, h2, hh, m, Q, hσ, hm, hfm, ha, hx, hg, hq⟩ S hI hQ
    subst hσ
    have hlt : ((i : Int) < (R.rs.length : Int)) := by omega
    have hw : wrapF .i64 ((i : Int) + 1) = ((i + 1 : Nat) : Int) := by rw [wrap64 (by omega) (by omega)]; omega
    have hsm := hs.keep (h' := hh) fun b hb => ha b (by have := hsn b hb; omega)
    have hxi : (R.rs.map Reach.av)[i]? = some (Reach.av (R.at i)) := by rw [List.getElem?_map, List.getElem?_eq_getElem hi, at_of (List.getElem?_eq_getElem hi)]; rfl
    obtain ⟨sb, o, c', e', ck', q1, q2, q3, _⟩ := hsm.many hfm hxi (List.length_map _)
    have q0 : a = some (sb, o) := by injection q1
    subst q0
    have b0 : hh.get n = some (.cells [.int .i64 R.days, .slc (some (sb, o)) R.rs.length c e ck] false) := by rw [ha n (by omega), hb]
    have ok := hv.ok hi
    have o7 := ok.w1
    have o8 := ok.w2
    have o9 := ok.w3
    have o12 := ok.r1
    have o13 := ok.r2
    have v1 : wrapF .i64 ((R.at i).ready + k) = (R.at i).ready + k := wrap64 (by omega) (by omega)
    have v2 : wrapF .i64 ((R.at i).lo + k) = (R.at i).lo + k := wrap64 (by omega) (by omega)
    have v3 : wrapF .i64 ((R.at i).hi + k) = (R.at i).hi + k := wrap64 (by omega) (by omega)
    have g2 := (hg.put (b := m) (o := some (.cells ((R.at i).moved k).cl false)) (fun e => by have := hg.lt hfm e; omega)).put (b := m + 1) (o := some (.cells ((R.at i).moved k).cl false)) (fun e => by have := hg.lt hfm e; omega)
    have f2 := (hfm.put (b := m) (o := some (.cells ((R.at i).moved k).cl false)) (n' := m + 1) (by omega) (by omega)).put (b := m + 1) (o := some (.cells ((R.at i).moved k).cl false)) (n' := m + 2) (by omega) (by omega)
    obtain ⟨h4, ea, eg, ef, ek⟩ := g2.append (fl := fl) (bytes := 64) (k := 1) (bx := m + 1) (ox := 0) (c := 1) (e := 31) (ck := .exact) (new := ((R.at i).moved k).cl) (fun b hb' => by have := hq b hb'; omega) f2
      (by rw [hget_eq, rdk_s]; rfl) (by omega) (by omega) rfl rfl
    have hbx : h4.get (n + 1) = some (.cells [.int .i64 (R.days + k), Q] false) := by rw [ek _ (by omega) (fun e => by have := hq _ e; omega), hget_ne (by omega), hget_ne (by omega), hx]
    have nm : (n = m) = False := by simp; omega
    have nm1 : (n = m + 1) = False := by simp; omega
    have xm : (n + 1 = m) = False := by simp; omega
    have xm1 : (n = m) = False := by simp; omega
    have sm : (sb = m) = False := by simp; omega
    have flm : fl ≤ m := by omega
    have fln : fl ≤ n + 1 := by omega
    simp only [Reach.moved, Reach.cl] at ea
    simp -implicitDefEqProofs only [a5_L0, ev0, ev1, ev2, ev3, ev4, ev5, ev6, ev7, evx, if_true, if_false, Nat.reduceEqDiff, Nat.reduceAdd, Nat.reduceMul, Nat.reduceSub, ↓reduceIte, reduceCtorEq, Nat.reduceLeDiff, Nat.reduceLT, Int.reduceLE, Int.reduceLT, Int.reduceEq, Int.reduceNeg, Int.reduceToNat, h1, h2, h3, h7, h8, h9, hlt, hw, b0, hx, hi, q3, v1, v2, v3, nm, nm1, xm, xm1, sm, flm, fln, ea, hbx]
    refine hI _ _ ⟨by simp -implicitDefEqProofs only [ev0, ev1, ev2, ev3, ev4, ev5, ev6, ev7, evx, if_true, if_false, Nat.reduceEqDiff, Nat.reduceAdd, Nat.reduceMul, Nat.reduceSub, ↓reduceIte, reduceCtorEq, Nat.reduceLeDiff, Nat.reduceLT, Int.reduceLE, Int.reduceLT, Int.reduceEq, Int.reduceNeg, Int.reduceToNat, h3], by simp -implicitDefEqProofs only [ev0, ev1, ev2, ev3, ev4, ev5, ev6, ev7, evx, if_true, if_false, Nat.reduceEqDiff, Nat.reduceAdd, Nat.reduceMul, Nat.reduceSub, ↓reduceIte, reduceCtorEq, Nat.reduceLeDiff, Nat.reduceLT, Int.reduceLE, Int.reduceLT, Int.reduceEq, Int.reduceNeg, Int.reduceToNat, h7], by simp -implicitDefEqProofs only [ev0, ev1, ev2, ev3, ev4, ev5, ev6, ev7, evx, if_true, if_false, Nat.reduceEqDiff, Nat.reduceAdd, Nat.reduceMul, Nat.reduceSub, ↓reduceIte, reduceCtorEq, Nat.reduceLeDiff, Nat.reduceLT, Int.reduceLE, Int.reduceLT, Int.reduceEq, Int.reduceNeg, Int.reduceToNat, h8], by simp -implicitDefEqProofs only [ev0, ev1, ev2, ev3, ev4, ev5, ev6, ev7, evx, if_true, if_false, Nat.reduceEqDiff, Nat.reduceAdd, Nat.reduceMul, Nat.reduceSub, ↓reduceIte, reduceCtorEq, Nat.reduceLeDiff, Nat.reduceLT, Int.reduceLE, Int.reduceLT, Int.reduceEq, Int.reduceNeg, Int.reduceToNat], by simp -implicitDefEqProofs only [ev0, ev1, ev2, ev3, ev4, ev5, ev6, ev7, evx, if_true, if_false, Nat.reduceEqDiff, Nat.reduceAdd, Nat.reduceMul, Nat.reduceSub, ↓reduceIte, reduceCtorEq, Nat.reduceLeDiff, Nat.reduceLT, Int.reduceLE, Int.reduceLT, Int.reduceEq, Int.reduceNeg, Int.reduceToNat, h1], by simp -implicitDefEqProofs only [ev0, ev1, ev2, ev3, ev4, ev5, ev6, ev7, evx, if_true, if_false, Nat.reduceEqDiff, Nat.reduceAdd, Nat.reduceMul, Nat.reduceSub, ↓reduceIte, reduceCtorEq, Nat.reduceLeDiff, Nat.reduceLT, Int.reduceLE, Int.reduceLT, Int.reduceEq, Int.reduceNeg, Int.reduceToNat, h2], _, m + 3, .slc (some (m + 2, 0)) (i + 1) (i + 1) 31 .tail, rfl, by omega, ef.put (by omega) (by omega), fun b hb' => ?_, by rw [hget_eq], ?_, fun b e => by cases e; omega⟩
    · rw [hget_ne (by omega), ek b (by omega) (fun e => by have := hq b e; omega), hget_ne (by omega), hget_ne (by omega)]; exact ha b hb'
    · rw [rc_snoc hi]
      have : R.rs[i] = R.at i := (at_of (List.getElem?_eq_getElem hi)).symm
      rw [this]
      exact eg.put (fun e => by cases e; omega)
  · intro tm σ ⟨h3, h7, h8, h9, h1, h2, hh, m, Q, hσ, hm, hfm, ha, hx, hg, hq⟩ S hQ
    subst hσ
    have hlt : ¬ ((R.rs.length : Int) < (R.rs.length : Int)) := by omega
    have b0 : hh.get n = some (.cells [.int .i64 R.days, .slc a R.rs.length c e ck] false) := by rw [ha n (by omega), hb]
    simp -implicitDefEqProofs only [a5_L0, ev0, ev1, ev2, ev3, ev4, ev5, ev6, ev7, evx, if_true, if_false, Nat.reduceEqDiff, Nat.reduceAdd, Nat.reduceMul, Nat.reduceSub, ↓reduceIte, reduceCtorEq, Nat.reduceLeDiff, Nat.reduceLT, Int.reduceLE, Int.reduceLT, Int.reduceEq, Int.reduceNeg, Int.reduceToNat, h3, h9, hlt, b0]
    rw [List.take_length] at hg
    exact hQ _ _ _ (by simp) ⟨rfl, hh, m, Q, rfl, hm, hfm, ha, hx, hg, by simp -implicitDefEqProofs only [ev0, ev1, ev2, ev3, ev4, ev5, ev6, ev7, evx, if_true, if_false, Nat.reduceEqDiff, Nat.reduceAdd, Nat.reduceMul, Nat.reduceSub, ↓reduceIte, reduceCtorEq, Nat.reduceLeDiff, Nat.reduceLT, Int.reduceLE, Int.reduceLT, Int.reduceEq, Int.reduceNeg, Int.reduceToNat, h3], by simp -implicitDefEqProofs only [ev0, ev1, ev2, ev3, ev4, ev5, ev6, ev7, evx, if_true, if_false, Nat.reduceEqDiff, Nat.reduceAdd, Nat.reduceMul, Nat.reduceSub, ↓reduceIte, reduceCtorEq, Nat.reduceLeDiff, Nat.reduceLT, Int.reduceLE, Int.reduceLT, Int.reduceEq, Int.reduceNeg, Int.reduceToNat, h7], by simp -implicitDefEqProofs only [ev0, ev1, ev2, ev3, ev4, ev5, ev6, ev7, evx, if_true, if_false, Nat.reduceEqDiff, Nat.reduceAdd, Nat.reduceMul, Nat.reduceSub, ↓reduceIte, reduceCtorEq, Nat.reduceLeDiff, Nat.reduceLT, Int.reduceLE, Int.reduceLT, Int.reduceEq, Int.reduceNeg, Int.reduceToNat, h8], by simp -implicitDefEqProofs only [ev0, ev1, ev2, ev3, ev4, ev5, ev6, ev7, evx, if_true, if_false, Nat.reduceEqDiff, Nat.reduceAdd, Nat.reduceMul, Nat.reduceSub, ↓reduceIte, reduceCtorEq, Nat.reduceLeDiff, Nat.reduceLT, Int.reduceLE, Int.reduceLT, Int.reduceEq, Int.reduceNeg, Int.reduceToNat, h1], by simp -implicitDefEqProofs only [ev0, ev1, ev2, ev3, ev4, ev5, ev6, ev7, evx, if_true, if_false, Nat.reduceEqDiff, Nat.reduceAdd, Nat.reduceMul, Nat.reduceSub, ↓reduceIte, reduceCtorEq, Nat.reduceLeDiff, Nat.reduceLT, Int.reduceLE, Int.reduceLT, Int.reduceEq, Int.reduceNeg, Int.reduceToNat, h2]⟩

theorem moved_call {R : River} {by_ day : Int} (hr : RivAt h v R) (hf : Fresh h n) (b0 : 0 ≤ by_ ∧ by_ ≤ 255) (b1 : 0 ≤ day ∧ day ≤ 255) :
    (lim ft (oraOf 10 true)).call (.fn 5 [] []) [v, .int .u8 by_, .int .u8 day] ⟨h, n, fl⟩ = some (.bool true, ⟨h, n, fl⟩) := by
  obtain ⟨sl, rfl, hs⟩ := id hr
  obtain ⟨a, c, e, ck, rfl⟩ := hs.shape (List.length_map _)
  refine pure_call rfl (by rfl) rfl rfl rfl ?_
  have f1 : Fresh (h.put n (some (.cells [.int .i64 R.days, .slc a R.rs.length c e ck] false))) (n + 1) := hf.put (by omega) (by omega)
  have r1 := hr.agree hf (Agree.refl.put (b := n) (o := some (.cells [.int .i64 R.days, .slc a R.rs.length c e ck] false)) (Nat.le_refl n))
  have e9 := fine_call (fl := n) r1 f1
  have e10 := @works_call
  by_cases hv : Valid R
  · have hd1 := hv.d1
    have hl1 := hv.l1
    have hd40 := hv.d2
    obtain ⟨D, hd⟩ : ∃ D : Nat, R.days = D := ⟨R.days.toNat, by omega⟩
    have wr1 : wrapF .i64 by_ = by_ := wrap64 (by omega) (by omega)
    have wr2 : wrapF .i64 (40 - R.days) = 40 - R.days := wrap64 (by omega) (by omega)
    have wr3 : wrapF .i64 (40 - R.days + 1) = 40 - R.days + 1 := wrap64 (by omega) (by omega)
    have q3 : ¬ (40 - R.days + 1 = 0) := by omega
    obtain ⟨k0, hk0, hk0l, hk0u⟩ := tmod_small (a := by_) (b := 40 - R.days + 1) b0.1 (by omega)
    obtain ⟨k, rfl⟩ : ∃ k : Nat, k0 = k := ⟨k0.toNat, by omega⟩
    have hk : R.days + k ≤ 40 := by omega
    have wr4 : wrapF .i64 (R.days + k) = R.days + k := wrap64 (by omega) (by omega)
    have f2 := f1.put (b := n + 1) (o := some (.cells [.int .i64 (R.days + k), .slc none 0 0 31 .exact] false)) (n' := n + 2) (by omega) (by omega)
    have hs2 := (hs.put (o := some (.cells [.int .i64 R.days, .slc a R.rs.length c e ck] false)) hf (Nat.le_refl _)).put (b := n + 1) (o := some (.cells [.int .i64 (R.days + k), .slc none 0 0 31 .exact] false)) f1 (Nat.le_refl _)
    have hbn : ∀ b, blkOf (.slc a R.rs.length c e ck) = some b → b < n := fun b hb => by
      obtain ⟨a2, c2, e2, ck2, he, hl2⟩ := hs
      have ha : a = a2 := by injection he
      subst ha
      have hx : (R.rs.map Reach.av)[0]? = some (Reach.av R.rs[0]) := by rw [List.getElem?_map, List.getElem?_eq_getElem (by omega)]; rfl
      obtain ⟨b', o', rfl, hld⟩ := hl2 0 _ hx
      cases hb
      exact load_lt hf hld
    simp -implicitDefEqProofs only [a5, ev0, ev1, ev2, ev3, ev4, ev5, ev6, ev7, evx, if_true, if_false, Nat.reduceEqDiff, Nat.reduceAdd, Nat.reduceMul, Nat.reduceSub, ↓reduceIte, reduceCtorEq, Nat.reduceLeDiff, Nat.reduceLT, Int.reduceLE, Int.reduceLT, Int.reduceEq, Int.reduceNeg, Int.reduceToNat, e9, hv, wr1, wr2, wr3, wr4, q3, hk0]
    generalize hT : T.put _ 9 _ = T0
    obtain ⟨x, tm2, σ2, el, rfl, h2, m2, Q, rfl, hm2, hf2, ha2, hx2, hg2, t3, t7, t8, t1, t2⟩ := mov_L0 (tm := T0) (fl := n) (n := n) (m0 := n + 2) (v := .int .u8 by_) (w := .int .u8 day) hv hk hs2 f2 (by omega) (Nat.le_refl n) hbn (by rw [hget_ne (by omega), hget_eq]) hget_eq
      (by subst hT; simp -implicitDefEqProofs only [ev0, ev1, ev2, ev3, ev4, ev5, ev6, ev7, evx, if_true, if_false, Nat.reduceEqDiff, Nat.reduceAdd, Nat.reduceMul, Nat.reduceSub, ↓reduceIte, reduceCtorEq, Nat.reduceLeDiff, Nat.reduceLT, Int.reduceLE, Int.reduceLT, Int.reduceEq, Int.reduceNeg, Int.reduceToNat]) (by subst hT; simp -implicitDefEqProofs only [ev0, ev1, ev2, ev3, ev4, ev5, ev6, ev7, evx, if_true, if_false, Nat.reduceEqDiff, Nat.reduceAdd, Nat.reduceMul, Nat.reduceSub, ↓reduceIte, reduceCtorEq, Nat.reduceLeDiff, Nat.reduceLT, Int.reduceLE, Int.reduceLT, Int.reduceEq, Int.reduceNeg, Int.reduceToNat]) (by subst hT; simp -implicitDefEqProofs only [ev0, ev1, ev2, ev3, ev4, ev5, ev6, ev7, evx, if_true, if_false, Nat.reduceEqDiff, Nat.reduceAdd, Nat.reduceMul, Nat.reduceSub, ↓reduceIte, reduceCtorEq, Nat.reduceLeDiff, Nat.reduceLT, Int.reduceLE, Int.reduceLT, Int.reduceEq, Int.reduceNeg, Int.reduceToNat]) (by subst hT; simp -implicitDefEqProofs only [ev0, ev1, ev2, ev3, ev4, ev5, ev6, ev7, evx, if_true, if_false, Nat.reduceEqDiff, Nat.reduceAdd, Nat.reduceMul, Nat.reduceSub, ↓reduceIte, reduceCtorEq, Nat.reduceLeDiff, Nat.reduceLT, Int.reduceLE, Int.reduceLT, Int.reduceEq, Int.reduceNeg, Int.reduceToNat]) (by subst hT; simp -implicitDefEqProofs only [ev0, ev1, ev2, ev3, ev4, ev5, ev6, ev7, evx, if_true, if_false, Nat.reduceEqDiff, Nat.reduceAdd, Nat.reduceMul, Nat.reduceSub, ↓reduceIte, reduceCtorEq, Nat.reduceLeDiff, Nat.reduceLT, Int.reduceLE, Int.reduceLT, Int.reduceEq, Int.reduceNeg, Int.reduceToNat]) (by subst hT; simp -implicitDefEqProofs only [ev0, ev1, ev2, ev3, ev4, ev5, ev6, ev7, evx, if_true, if_false, Nat.reduceEqDiff, Nat.reduceAdd, Nat.reduceMul, Nat.reduceSub, ↓reduceIte, reduceCtorEq, Nat.reduceLeDiff, Nat.reduceLT, Int.reduceLE, Int.reduceLT, Int.reduceEq, Int.reduceNeg, Int.reduceToNat])
    have hv2 := moved_valid hv hk
    have hd2 : (R.moved k).days = ((D + k : Nat) : Int) := by show R.days + k = _; omega
    have rx : RivAt h2 (.agg [.int .i64 (R.days + k), Q]) (R.moved k) := ⟨Q, rfl, hg2.riv (by rw [River.moved, mapR_len]; omega)⟩
    have r2 : RivAt h2 (.agg [.int .i64 R.days, .slc a R.rs.length c e ck]) R := ⟨_, rfl, hs2.keep fun b hb => ha2 b (by have := hbn b hb; omega)⟩
    have e11 := day_call (n := m2) (fl := n) (k := .u8) (d := day) r2 hv b1.1 b1.2
    obtain ⟨d, hdd, hdl, hdu⟩ := day_of hv hd b1.1
    rw [hdd] at e11
    have wr5 : wrapF .i64 ((d : Int) + k) = ((d + k : Nat) : Int) := by rw [wrap64 (by omega) (by omega)]; omega
    have e13 := most_call (fl := n) hd hv r2 hf2 hdl hdu
    have e14 := most_call (fl := n) (d := d + k) hd2 hv2 rx hf2 (by omega) (by omega)
    rw [bom_moved hv] at e14
    have hb0 : h2.get n = some (.cells [.int .i64 R.days, .slc a R.rs.length c e ck] false) := by rw [ha2 n (by omega), hget_ne (by omega), hget_eq]
    obtain ⟨w3, σ3, e15, h3, m3, Q3, rfl, rfl, g1, g2, g3, g4⟩ := left_call (fl := n) hd hv r2 hf2 (by omega)
    have rx3 := rx.agree hf2 g3
    obtain ⟨w4, σ4, e16, h4, m4, Q4, rfl, rfl, g5, g6, g7, g8⟩ := left_call (fl := n) hd2 hv2 rx3 g2 (by omega)
    have hb1 : h3.get (n + 1) = some (.cells [.int .i64 (R.days + k), Q] false) := by rw [g3 _ (by omega), hx2]
    have hb2 : h4.get (n + 1) = some (.cells [.int .i64 (R.days + k), Q] false) := by rw [g7 _ (by omega), hb1]
    have hlen : (R.moved k).rs.length = R.rs.length := mapR_len _ _ _
    rw [hlen, left_moved hv (Nat.le_refl _)] at g8
    have e17 := longs_call (fl := n) (n := m4) (h := h4) (by unfold leftL; rw [List.length_map, List.length_range]; have := hv.l2; omega) (SlV.agree g4 g2 g7) g8 g6
    simp -implicitDefEqProofs only [el, ev0, ev1, ev2, ev3, ev4, ev5, ev6, ev7, evx, if_true, if_false, Nat.reduceEqDiff, Nat.reduceAdd, Nat.reduceMul, Nat.reduceSub, ↓reduceIte, reduceCtorEq, Nat.reduceLeDiff, Nat.reduceLT, Int.reduceLE, Int.reduceLT, Int.reduceEq, Int.reduceNeg, Int.reduceToNat, t1, t2, t3, t7, t8, hb0, hx2, e11, e13, wr5, e14, e15, hb1, e16, e17]
    by_cases hk0 : (k : Int) = 0
    · simp -implicitDefEqProofs only [ev0, ev1, ev2, ev3, ev4, ev5, ev6, ev7, evx, if_true, if_false, Nat.reduceEqDiff, Nat.reduceAdd, Nat.reduceMul, Nat.reduceSub, ↓reduceIte, reduceCtorEq, Nat.reduceLeDiff, Nat.reduceLT, Int.reduceLE, Int.reduceLT, Int.reduceEq, Int.reduceNeg, Int.reduceToNat, hk0, e10]
    · have rx4 := rx3.agree g2 g7
      have e18 := most_call (fl := n) (d := k) hd2 hv2 rx4 g6 (by omega) (by omega)
      rw [bom_early hv (Nat.le_refl _)] at e18
      simp -implicitDefEqProofs only [ev0, ev1, ev2, ev3, ev4, ev5, ev6, ev7, evx, if_true, if_false, Nat.reduceEqDiff, Nat.reduceAdd, Nat.reduceMul, Nat.reduceSub, ↓reduceIte, reduceCtorEq, Nat.reduceLeDiff, Nat.reduceLT, Int.reduceLE, Int.reduceLT, Int.reduceEq, Int.reduceNeg, Int.reduceToNat, t3, t7, t8, hk0, hb2, e18, e10]
  · simp -implicitDefEqProofs only [a5, ev0, ev1, ev2, ev3, ev4, ev5, ev6, ev7, evx, if_true, if_false, Nat.reduceEqDiff, Nat.reduceAdd, Nat.reduceMul, Nat.reduceSub, ↓reduceIte, reduceCtorEq, Nat.reduceLeDiff, Nat.reduceLT, Int.reduceLE, Int.reduceLT, Int.reduceEq, Int.reduceNeg, Int.reduceToNat, e9, hv, e10]
end
end Go.AM
