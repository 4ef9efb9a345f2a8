/- DriveMore: no fewer logs. -/
import Derived.Test.YtidlikbpbkgbaaaDB
set_option linter.all false
set_option linter.unusedVariables false
set_option linter.unusedSimpArgs false
set_option linter.unusedSectionVars false
namespace Go.AM
open Go
noncomputable section
variable {tm tm' : T AV} {σ σ' : AS} {h h' : T AObj} {n n' fl : Nat} {v : AV} {sl P C B : AV} {g : List Int}

theorem RivAt.agree {R : River} (hr : RivAt h v R) (hf : Fresh h n) (ha : Agree n h h') : RivAt h' v R := by
  obtain ⟨sl, rfl, hs⟩ := hr
  exact ⟨sl, rfl, hs.agree hf ha⟩
theorem tmod_small {a b : Int} (ha : 0 ≤ a) (hb : 0 < b) : ∃ r : Int, a.tmod b = r ∧ 0 ≤ r ∧ r < b := ⟨_, rfl, Int.tmod_nonneg _ ha, Int.tmod_lt_of_pos _ hb⟩
/-- A number brought below a length. -/
theorem idx_of {a : Int} {N : Nat} (ha : 0 ≤ a) (hN : 0 < N) : ∃ i : Nat, a.tmod (N : Int) = i ∧ i < N := by
  have h1 := Int.tmod_nonneg (N : Int) ha
  have h2 := Int.tmod_lt_of_pos a (show (0 : Int) < N by omega)
  exact ⟨(a.tmod N).toNat, by omega, by omega⟩
theorem day_of {R : River} {D : Nat} (hv : Valid R) (hd : R.days = (D : Int)) {a : Int} (ha : 0 ≤ a) : ∃ d : Nat, 1 + a % R.days = d ∧ 1 ≤ d ∧ d ≤ D := by
  have h0 := hv.d1
  have h1 := Int.emod_nonneg a (show R.days ≠ 0 by omega)
  have h2 := Int.emod_lt_of_pos a (show 0 < R.days by omega)
  exact ⟨(1 + a % R.days).toNat, by omega, by omega, by omega⟩

theorem more_call {R : River} {day reach m0 m1 m2 m3 m4 : Int} (hr : RivAt h v R) (hf : Fresh h n)
    (b0 : 0 ≤ day ∧ day ≤ 255) (b1 : 0 ≤ reach ∧ reach ≤ 255) (c0 : 0 ≤ m0 ∧ m0 ≤ 255) (c1 : 0 ≤ m1 ∧ m1 ≤ 255) (c2 : 0 ≤ m2 ∧ m2 ≤ 255) (c3 : 0 ≤ m3 ∧ m3 ≤ 255) (c4 : 0 ≤ m4 ∧ m4 ≤ 255) :
    (lim ft (oraOf 10 true)).call (.fn 6 [] []) [v, .int .u8 day, .int .u8 reach, .agg [.int .u8 m0, .int .u8 m1, .int .u8 m2, .int .u8 m3, .int .u8 m4]] ⟨h, n, fl⟩ = some (.bool true, ⟨h, n, fl⟩) := by
  obtain ⟨sl, rfl, hs⟩ := id hr
  obtain ⟨a, c, e, ck, rfl⟩ := hs.shape (List.length_map _)
  refine pure_call rfl (by rfl) rfl rfl rfl ?_
  have f1 : Fresh (h.put n (some (.cells [.int .i64 R.days, .slc a R.rs.length c e ck] false))) (n + 1) := hf.put (by omega) (by omega)
  have f2 : Fresh ((h.put n (some (.cells [.int .i64 R.days, .slc a R.rs.length c e ck] false))).put (n + 1) (some (.cells [.int .u8 m0, .int .u8 m1, .int .u8 m2, .int .u8 m3, .int .u8 m4] false))) (n + 2) := f1.put (by omega) (by omega)
  have a2 : Agree n h ((h.put n (some (.cells [.int .i64 R.days, .slc a R.rs.length c e ck] false))).put (n + 1) (some (.cells [.int .u8 m0, .int .u8 m1, .int .u8 m2, .int .u8 m3, .int .u8 m4] false))) := (Agree.refl.put (Nat.le_refl n)).put (by omega)
  have r2 := hr.agree hf a2
  have e9 := fine_call (fl := n) r2 f2
  have e10 := @works_call
  by_cases hv : Valid R
  · have hd1 := hv.d1
    have hl1 := hv.l1
    have hl8 := hv.l2
    obtain ⟨D, hd⟩ : ∃ D : Nat, R.days = D := ⟨R.days.toNat, by omega⟩
    have e11 := day_call (h := ((h.put n (some (.cells [.int .i64 R.days, .slc a R.rs.length c e ck] false))).put (n + 1) (some (.cells [.int .u8 m0, .int .u8 m1, .int .u8 m2, .int .u8 m3, .int .u8 m4] false)))) (n := n + 2) (fl := n) (k := .u8) (d := day) r2 hv b0.1 b0.2
    obtain ⟨d, hdd, hdl, hdu⟩ := day_of hv hd b0.1
    rw [hdd] at e11
    obtain ⟨i, hi1, hi⟩ := idx_of (a := reach) b1.1 (show 0 < R.rs.length by omega)
    have hx : (R.rs.map Reach.av)[i]? = some (Reach.av (R.at i)) := by rw [List.getElem?_map, List.getElem?_eq_getElem hi, at_of (List.getElem?_eq_getElem hi)]; rfl
    obtain ⟨sb, o, c', e', ck', hsl, hb2, hkk, _⟩ := hs.many hf hx (List.length_map _)
    have hsl1 : a = some (sb, o) := by injection hsl
    subst hsl1
    have ok := hv.ok hi
    have n1 := ne_new hb2
    have n2 := ne_newk hb2
    have wr1 : wrapF .i64 reach = reach := wrap64 (by omega) (by omega)
    have hl0 : ¬ ((R.rs.length : Int) = 0) := by omega
    obtain ⟨k1, hk1, hk1l, hk1u⟩ := tmod_small (a := m1) (b := 9) c1.1 (by omega)
    obtain ⟨k2, hk2, hk2l, hk2u⟩ := tmod_small (a := m2) (b := 4) c2.1 (by omega)
    obtain ⟨k5, hk5, hk5l, hk5u⟩ := tmod_small (a := m4) (b := 5) c4.1 (by omega)
    obtain ⟨k7, hk7, hk7l, hk7u⟩ := tmod_small (a := m4) (b := 7) c4.1 (by omega)
    obtain ⟨k3, hk3, hk3l, hk3u⟩ := tmod_small (a := m4) (b := 3) c4.1 (by omega)
    have o1 := ok.p1
    have o2 := ok.p2
    have o3 := ok.t1
    have o4 := ok.t2
    have o5 := ok.e1
    have o6 := ok.e2
    have o7 := ok.w1
    have o8 := ok.w2
    have o9 := ok.w3
    have o10 := ok.l1
    have o11 := ok.l2
    have o12 := ok.r1
    have o13 := ok.r2
    have hd40 := hv.d2
    have w0 : wrapF .i64 m0 = m0 := wrap64 (by omega) (by omega)
    have w1 : wrapF .i64 m1 = m1 := wrap64 (by omega) (by omega)
    have w2 : wrapF .i64 m2 = m2 := wrap64 (by omega) (by omega)
    have w4 : wrapF .i64 m4 = m4 := wrap64 (by omega) (by omega)
    have v0 : wrapF .i64 ((R.at i).logs + m0) = (R.at i).logs + m0 := wrap64 (by omega) (by omega)
    have v1 : wrapF .i64 ((R.at i).pass + k1) = (R.at i).pass + k1 := wrap64 (by omega) (by omega)
    have v2 : wrapF .i64 ((R.at i).takes - k2) = (R.at i).takes - k2 := wrap64 (by omega) (by omega)
    have v5 : wrapF .i64 ((R.at i).lo - k5) = (R.at i).lo - k5 := wrap64 (by omega) (by omega)
    have v7 : wrapF .i64 ((R.at i).hi + k7) = (R.at i).hi + k7 := wrap64 (by omega) (by omega)
    have v3 : wrapF .i64 ((R.at i).ready - k3) = (R.at i).ready - k3 := wrap64 (by omega) (by omega)
    have main : ∀ x : Reach, RangeOK x R.days → Better (R.at i) x → ∃ w σ', (lim ft (oraOf 10 true)).call (.fn 20 [] []) [.agg [.int .i64 R.days, .slc (some (sb, o)) R.rs.length c e ck], .int .i64 (i : Int), x.av] ⟨((h.put n (some (.cells [.int .i64 R.days, .slc (some (sb, o)) R.rs.length c e ck] false))).put (n + 1) (some (.cells [.int .u8 m0, .int .u8 m1, .int .u8 m2, .int .u8 m3, .int .u8 m4] false))).put (n + 2) (some (.cells x.cl false)), n + 3, n⟩ = some (w, σ') ∧
        (lim ft (oraOf 10 true)).call (.fn 13 [] []) [.agg [.int .i64 R.days, .slc (some (sb, o)) R.rs.length c e ck], .int .i64 (d : Int)] ⟨((h.put n (some (.cells [.int .i64 R.days, .slc (some (sb, o)) R.rs.length c e ck] false))).put (n + 1) (some (.cells [.int .u8 m0, .int .u8 m1, .int .u8 m2, .int .u8 m3, .int .u8 m4] false))).put (n + 2) (some (.cells x.cl false)), n + 3, n⟩ =
          some (.tup [.int .i64 (bom R d), .int .i64 0], ⟨((h.put n (some (.cells [.int .i64 R.days, .slc (some (sb, o)) R.rs.length c e ck] false))).put (n + 1) (some (.cells [.int .u8 m0, .int .u8 m1, .int .u8 m2, .int .u8 m3, .int .u8 m4] false))).put (n + 2) (some (.cells x.cl false)), n + 3, n⟩) ∧
        ∃ b : Int, (lim ft (oraOf 10 true)).call (.fn 13 [] []) [w, .int .i64 (d : Int)] σ' = some (.tup [.int .i64 b, .int .i64 0], σ') ∧ bom R d ≤ b := by
      intro x hx hb
      have f3 := f2.put (b := n + 2) (o := some (.cells x.cl false)) (n' := n + 3) (by omega) (by omega)
      have r3 := hr.agree hf (a2.put (b := n + 2) (o := some (.cells x.cl false)) (by omega))
      obtain ⟨w, σ', g1, h3, n3, rfl, g2, g3, g4, g5, _⟩ := changed_call (fl := n) (x := x) hv r3 f3 (by omega) hi
      have hv' := set_valid hv hi hb.down.symm hx
      exact ⟨w, _, g1, most_call hd hv r3 f3 hdl hdu, bom (R.set i x) d, most_call (R := R.set i x) (by exact hd) hv' g5 g3 hdl hdu, bom_better hv.nonneg hv'.nonneg (set_len R i x).symm (set_better hv hi hb) d⟩
    by_cases q : m3.tmod 2 = 1
    · obtain ⟨w, ⟨h4, n4, fl4⟩, g1, g2, b, g3, g4⟩ := main ⟨(R.at i).down, min 1000 ((R.at i).pass + k1), max 0 ((R.at i).takes - k2), max 1 ((R.at i).lo - k5), min R.days ((R.at i).hi + k7), 1, min 10000 ((R.at i).logs + m0), max 1 ((R.at i).ready - k3)⟩
        ⟨by dsimp only; omega, by dsimp only; omega, by dsimp only; omega, by dsimp only; omega, by dsimp only; omega, by dsimp only; omega, by dsimp only; omega, by dsimp only; omega, by dsimp only; omega, by dsimp only; omega, by dsimp only; omega, by dsimp only; omega, by dsimp only; omega⟩
        ⟨rfl, by dsimp only; omega, by dsimp only; omega, by dsimp only; omega, o10, by dsimp only; omega, fun dd hop => by
          rw [isOpen_iff] at hop ⊢
          dsimp only
          refine ⟨by omega, by omega, by rw [Int.emod_one]⟩⟩
      simp only [Reach.av, Reach.cl] at g1 g2
      have hge : bom R d ≤ b := g4
      simp -implicitDefEqProofs only [a6, ev0, ev1, ev2, ev3, ev4, ev5, ev6, ev7, evx, if_true, if_false, Nat.reduceEqDiff, Nat.reduceAdd, Nat.reduceMul, Nat.reduceSub, ↓reduceIte, reduceCtorEq, Nat.reduceLeDiff, Nat.reduceLT, Int.reduceLE, Int.reduceLT, Int.reduceEq, Int.reduceNeg, Int.reduceToNat, e9, hv, e10, e11, wr1, hl0, hi1, n1, n2, hi, hkk, w0, v0, w1, hk1, v1, w2, hk2, v2, q, w4, hk5, v5, hk7, v7, hk3, v3, g1, g2, g3, hge]
    · obtain ⟨w, ⟨h4, n4, fl4⟩, g1, g2, b, g3, g4⟩ := main ⟨(R.at i).down, min 1000 ((R.at i).pass + k1), max 0 ((R.at i).takes - k2), (R.at i).lo, (R.at i).hi, (R.at i).every, min 10000 ((R.at i).logs + m0), max 1 ((R.at i).ready - k3)⟩
        ⟨by dsimp only; omega, by dsimp only; omega, by dsimp only; omega, by dsimp only; omega, by dsimp only; omega, by dsimp only; omega, by dsimp only; omega, by dsimp only; omega, by dsimp only; omega, by dsimp only; omega, by dsimp only; omega, by dsimp only; omega, by dsimp only; omega⟩
        ⟨rfl, by dsimp only; omega, by dsimp only; omega, by dsimp only; omega, o10, by dsimp only; omega, fun dd hop => hop⟩
      simp only [Reach.av, Reach.cl] at g1 g2
      have hge : bom R d ≤ b := g4
      simp -implicitDefEqProofs only [a6, ev0, ev1, ev2, ev3, ev4, ev5, ev6, ev7, evx, if_true, if_false, Nat.reduceEqDiff, Nat.reduceAdd, Nat.reduceMul, Nat.reduceSub, ↓reduceIte, reduceCtorEq, Nat.reduceLeDiff, Nat.reduceLT, Int.reduceLE, Int.reduceLT, Int.reduceEq, Int.reduceNeg, Int.reduceToNat, e9, hv, e10, e11, wr1, hl0, hi1, n1, n2, hi, hkk, w0, v0, w1, hk1, v1, w2, hk2, v2, q, w4, hk3, v3, g1, g2, g3, hge]
  · simp -implicitDefEqProofs only [a6, ev0, ev1, ev2, ev3, ev4, ev5, ev6, ev7, evx, if_true, if_false, Nat.reduceEqDiff, Nat.reduceAdd, Nat.reduceMul, Nat.reduceSub, ↓reduceIte, reduceCtorEq, Nat.reduceLeDiff, Nat.reduceLT, Int.reduceLE, Int.reduceLT, Int.reduceEq, Int.reduceNeg, Int.reduceToNat, e9, hv, e10]
end
end Go.AM
