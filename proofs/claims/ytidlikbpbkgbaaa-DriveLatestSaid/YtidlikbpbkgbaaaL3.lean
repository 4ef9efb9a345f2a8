/- DriveLatest: how late logs may be ready. -/
import Derived.Test.YtidlikbpbkgbaaaDC
import Derived.Test.YtidlikbpbkgbaaaL6
set_option linter.all false
set_option linter.unusedVariables false
set_option linter.unusedSimpArgs false
set_option linter.unusedSectionVars false
namespace Go.AM
open Go
noncomputable section
variable {tm tm' : T AV} {σ σ' : AS} {h h' : T AObj} {n n' fl : Nat} {v : AV} {sl P C B : AV} {g : List Int}

theorem latestLaw_call {R : River} {day reach rdy : Int} (hr : RivAt h v R) (hf : Fresh h n) (b0 : 0 ≤ day ∧ day ≤ 255) (b1 : 0 ≤ reach ∧ reach ≤ 255) (b2 : 0 ≤ rdy ∧ rdy ≤ 255) :
    (lim ft (oraOf 10 true)).call (.fn 3 [] []) [v, .int .u8 day, .int .u8 reach, .int .u8 rdy] ⟨h, n, fl⟩ = some (.bool true, ⟨h, n, fl⟩) := by
  obtain ⟨sl, rfl, hs⟩ := id hr
  obtain ⟨a, c, e, ck, rfl⟩ := hs.shape (List.length_map _)
  refine pure_call rfl (by rfl) rfl rfl rfl ?_
  have f1 : Fresh (h.put n (some (.cells [.int .i64 R.days, .slc a R.rs.length c e ck] false))) (n + 1) := hf.put (by omega) (by omega)
  have a1 : Agree n h (h.put n (some (.cells [.int .i64 R.days, .slc a R.rs.length c e ck] false))) := Agree.refl.put (Nat.le_refl n)
  have r1 := hr.agree hf a1
  have e9 := fine_call (fl := n) r1 f1
  have e10 := @works_call
  by_cases hv : Valid R
  · have hd1 := hv.d1
    have hl1 := hv.l1
    have hl8 := hv.l2
    have hd40 := hv.d2
    obtain ⟨D, hd⟩ : ∃ D : Nat, R.days = D := ⟨R.days.toNat, by omega⟩
    have e11 := day_call (h := h.put n (some (.cells [.int .i64 R.days, .slc a R.rs.length c e ck] false))) (n := n + 1) (fl := n) (k := .u8) (d := day) r1 hv b0.1 b0.2
    obtain ⟨d, hdd, hdl, hdu⟩ := day_of hv hd b0.1
    rw [hdd] at e11
    obtain ⟨i, hi1, hi⟩ := idx_of (a := reach) b1.1 (show 0 < R.rs.length by omega)
    have hx : (R.rs.map Reach.av)[i]? = some (Reach.av (R.at i)) := by rw [List.getElem?_map, List.getElem?_eq_getElem hi, at_of (List.getElem?_eq_getElem hi)]; rfl
    obtain ⟨sb, o, c', e', ck', hsl, hb2, hkk, hk1⟩ := hs.many hf hx (List.length_map _)
    have hsl1 : a = some (sb, o) := by injection hsl
    subst hsl1
    have hkr := hk1 7 _ rfl
    have ok := hv.ok hi
    have o12 := ok.r1
    have o13 := ok.r2
    have n1 := ne_new hb2
    have wr1 : wrapF .i64 reach = reach := wrap64 (by omega) (by omega)
    have wr2 : wrapF .i64 rdy = rdy := wrap64 (by omega) (by omega)
    have hl0 : ¬ ((R.rs.length : Int) = 0) := by omega
    obtain ⟨L, e12, l1, l2, l3, l4⟩ := latest_call (fl := n) hd hv r1 f1 hdl hdu hi
    have e13 := most_call (fl := n) hd hv r1 f1 hdl hdu
    have q1 : ¬ L < (R.at i).ready := by omega
    have q2 : ¬ R.days < L := by omega
    have w3 : wrapF .i64 (L - (R.at i).ready) = L - (R.at i).ready := wrap64 (by omega) (by omega)
    have w4 : wrapF .i64 (L - (R.at i).ready + 1) = L - (R.at i).ready + 1 := wrap64 (by omega) (by omega)
    have q3 : ¬ (L - (R.at i).ready + 1 = 0) := by omega
    obtain ⟨k, hk, hkl, hku⟩ := tmod_small (a := rdy) (b := L - (R.at i).ready + 1) b2.1 (by omega)
    have w5 : wrapF .i64 ((R.at i).ready + k) = (R.at i).ready + k := wrap64 (by omega) (by omega)
    obtain ⟨w, σ1, g1, h3, n3, rfl, g2, g3, g4, g5⟩ := later_call (fl := n) (x := (R.at i).ready + k) hv r1 f1 (by omega) hi
    have hv1 := rdy_valid hv hi (l := (R.at i).ready + k) (by omega) (by omega)
    have e14 := most_call (fl := n) (R := R.set i ((R.at i).rdy ((R.at i).ready + k))) (by exact hd) hv1 g5 g3 hdl hdu
    have hla : bom (R.set i ((R.at i).rdy ((R.at i).ready + k))) d = bom R d := l3 _ (by omega) (by omega)
    rw [hla] at e14
    have k1 : h3.get n = some (.cells [.int .i64 R.days, .slc (some (sb, o)) R.rs.length c e ck] false) := by rw [g4 n (by omega), hget_eq]
    by_cases q5 : L = R.days
    · have q6 : (L = R.days) = True := by simp [q5]
      simp -implicitDefEqProofs only [a3, ev0, ev1, ev2, ev3, ev4, ev5, ev6, ev7, evx, if_true, if_false, Nat.reduceEqDiff, Nat.reduceAdd, Nat.reduceMul, Nat.reduceSub, ↓reduceIte, reduceCtorEq, Nat.reduceLeDiff, Nat.reduceLT, Int.reduceLE, Int.reduceLT, Int.reduceEq, Int.reduceNeg, Int.reduceToNat, e9, hv, e10, e11, wr1, hl0, hi1, n1, hi, hkr, e12, e13, q1, q2, wr2, w3, w4, q3, hk, w5, g1, e14, k1, q6]
    · have r3 := r1.agree f1 g4
      have w6 : wrapF .i64 (L + 1) = L + 1 := wrap64 (by omega) (by omega)
      obtain ⟨w', σ2, p1, h4, n4, rfl, p2, p3, p4, p5⟩ := later_call (fl := n) (x := L + 1) hv r3 g3 (by omega) hi
      have hv2 := rdy_valid hv hi (l := L + 1) (by omega) (by omega)
      have e15 := most_call (fl := n) (R := R.set i ((R.at i).rdy (L + 1))) (by exact hd) hv2 p5 p3 hdl hdu
      have hlt : bom (R.set i ((R.at i).rdy (L + 1))) d < bom R d := l4 (by omega)
      simp -implicitDefEqProofs only [a3, ev0, ev1, ev2, ev3, ev4, ev5, ev6, ev7, evx, if_true, if_false, Nat.reduceEqDiff, Nat.reduceAdd, Nat.reduceMul, Nat.reduceSub, ↓reduceIte, reduceCtorEq, Nat.reduceLeDiff, Nat.reduceLT, Int.reduceLE, Int.reduceLT, Int.reduceEq, Int.reduceNeg, Int.reduceToNat, e9, hv, e10, e11, wr1, hl0, hi1, n1, hi, hkr, e12, e13, q1, q2, wr2, w3, w4, q3, hk, w5, g1, e14, k1, q5, w6, p1, e15, hlt]
  · simp -implicitDefEqProofs only [a3, ev0, ev1, ev2, ev3, ev4, ev5, ev6, ev7, evx, if_true, if_false, Nat.reduceEqDiff, Nat.reduceAdd, Nat.reduceMul, Nat.reduceSub, ↓reduceIte, reduceCtorEq, Nat.reduceLeDiff, Nat.reduceLT, Int.reduceLE, Int.reduceLT, Int.reduceEq, Int.reduceNeg, Int.reduceToNat, e9, hv, e10]
end
end Go.AM
