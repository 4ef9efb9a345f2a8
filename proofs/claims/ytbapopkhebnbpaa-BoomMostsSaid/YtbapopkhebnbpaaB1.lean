/- What the small functions of the boom come to, one by one: the checks. -/
import Derived.Test.YtbapopkhebnbpaaMD
import Derived.Test.YtbapopkhebnbpaaAst
set_option linter.all false
set_option linter.unusedVariables false
set_option linter.unusedSimpArgs false
set_option linter.unusedSectionVars false
namespace Go.AM
open Go
noncomputable section
variable {tm tm' : T AV} {σ σ' : AS} {h h' : T AObj} {n n' fl : Nat} {v : AV}

theorem works_call : (lim ft (oraOf 18 true)).call (.fn 18 [] []) [] σ = some (.bool true, σ) := by rw [call_eq]; rfl

theorem within1 {b1 b2 : Nat} {lo hi x : Int} {r1 r2 : Bool} (h1 : h.get b1 = some (.cells [.int .i64 lo] r1)) (h2 : h.get b2 = some (.cells [.int .i64 hi] r2)) :
    (lim ft (oraOf 18 true)).call (.fn 96 [] [.ptr (some (b1, 0)), .ptr (some (b2, 0))]) [.int .i64 x] ⟨h, n, fl⟩ = some (.bool (decide (x < lo) || decide (hi < x)), ⟨h, n, fl⟩) := by
  refine pure_call rfl (by rfl) rfl rfl rfl ?_
  simp -implicitDefEqProofs only [a96]
  by_cases p : x < lo
  · simp -implicitDefEqProofs only [ev0, ev1, ev2, ev3, ev4, ev5, ev6, ev7, evx, if_true, if_false, Nat.reduceEqDiff, Nat.reduceAdd, Nat.reduceMul, Nat.reduceSub, ↓reduceIte, reduceCtorEq, Nat.reduceLeDiff, Nat.reduceLT, Int.reduceLE, Int.reduceLT, Int.reduceEq, Int.reduceNeg, Int.reduceToNat, load1 h1, load1 h2, p]
  · simp -implicitDefEqProofs only [ev0, ev1, ev2, ev3, ev4, ev5, ev6, ev7, evx, if_true, if_false, Nat.reduceEqDiff, Nat.reduceAdd, Nat.reduceMul, Nat.reduceSub, ↓reduceIte, reduceCtorEq, Nat.reduceLeDiff, Nat.reduceLT, Int.reduceLE, Int.reduceLT, Int.reduceEq, Int.reduceNeg, Int.reduceToNat, load1 h1, load1 h2, p]
/-- Whether all numbers are from one to another one. -/
def inB (lo hi x : Int) : Bool := decide (lo ≤ x) && decide (x ≤ hi)
theorem any_all (lo hi : Int) : ∀ l : List Int, ((ints l).any fun x => match x with | .int _ a => decide (a < lo) || decide (hi < a) | _ => false) = !(l.all (inB lo hi))
  | [] => rfl
  | a :: l => by
    have e : (decide (a < lo) || decide (hi < a)) = !(inB lo hi a) := by
      unfold inB
      by_cases h1 : a < lo
      · simp [h1, show ¬ lo ≤ a by omega]
      · by_cases h2 : hi < a
        · simp [h2, show ¬ a ≤ hi by omega]
        · simp [h1, h2, show lo ≤ a by omega, show a ≤ hi by omega]
    have ih := any_all lo hi l
    unfold ints at ih ⊢
    simp only [List.map_cons, List.any_cons, List.all_cons]
    rw [e, ih, Bool.not_and]
theorem within_call {lo hi : Int} {l : List Int} (hs : SlI h v l) (hlen : l.length < 4611686018427387904) (hfr : Fresh h n) :
    (lim ft (oraOf 18 true)).call (.fn 69 [] []) [.int .i64 lo, .int .i64 hi, v] ⟨h, n, fl⟩ = some (.bool (l.all (inB lo hi)), ⟨h, n, fl⟩) := by
  refine pure_call rfl (by rfl) rfl rfl rfl ?_
  have hs2 : SlI ((h.put n (some (.cells [.int .i64 lo] false))).put (n + 1) (some (.cells [.int .i64 hi] false))) v l := by
    exact SlV.put (n := n + 1) (SlV.put (n := n) hs hfr (Nat.le_refl _)) (hfr.put (by omega) (by omega)) (Nat.le_refl _)
  have hc := has_call (O := (oraOf 18 true)) (ft := ft) (g := 94) (g2 := 64) (n := n + 1 + 1) (fl := n) (f := .fn 96 [] [.ptr (some (n, 0)), .ptr (some (n + 1, 0))]) (p := fun x => match x with | .int _ a => decide (a < lo) || decide (hi < a) | _ => false) (by rfl) (by rfl) rfl rfl hs2 (by simpa [ints] using hlen) (fun x hx => by
    obtain ⟨a, _, rfl⟩ := List.mem_map.1 hx
    exact within1 (r1 := false) (r2 := false) (by rw [hget_ne (by omega), hget_eq]) hget_eq)
  simp -implicitDefEqProofs only [a69, ev0, ev1, ev2, ev3, ev4, ev5, ev6, ev7, evx, if_true, if_false, Nat.reduceEqDiff, Nat.reduceAdd, Nat.reduceMul, Nat.reduceSub, ↓reduceIte, reduceCtorEq, Nat.reduceLeDiff, Nat.reduceLT, Int.reduceLE, Int.reduceLT, Int.reduceEq, Int.reduceNeg, Int.reduceToNat, hc]
  rw [any_all, Bool.not_not]
/-- The check of a few numbers that are listed. -/
theorem within_list {lo hi : Int} {l : List Int} {b c e : Nat} {ck : CK} {ro : Bool} (hlen : l.length < 4611686018427387904) (hg : h.get b = some (.cells (ints l) ro)) (hf : Fresh h n) :
    (lim ft (oraOf 18 true)).call (.fn 69 [] []) [.int .i64 lo, .int .i64 hi, .slc (some (b, 0)) l.length c e ck] ⟨h, n, fl⟩ = some (.bool (l.all (inB lo hi)), ⟨h, n, fl⟩) := by
  have := SlV.block1 (e := e) (ck := ck) (c := c) hg
  rw [ints_len] at this
  exact within_call this hlen hf
theorem within_1 {lo hi a : Int} {b c e : Nat} {ck : CK} {ro : Bool} (hf : Fresh (h.put b (some (.cells [.int .i64 a] ro))) n) :
    (lim ft (oraOf 18 true)).call (.fn 69 [] []) [.int .i64 lo, .int .i64 hi, .slc (some (b, 0)) 1 c e ck] ⟨h.put b (some (.cells [.int .i64 a] ro)), n, fl⟩ = some (.bool (inB lo hi a), ⟨h.put b (some (.cells [.int .i64 a] ro)), n, fl⟩) := by
  have := within_list (lo := lo) (hi := hi) (l := [a]) (e := e) (ck := ck) (c := c) (fl := fl) (by simp) hget_eq hf
  simpa [ints] using this
theorem within_3 {lo hi a1 a2 a3 : Int} {b c e : Nat} {ck : CK} {ro : Bool} (hf : Fresh (h.put b (some (.cells [.int .i64 a1, .int .i64 a2, .int .i64 a3] ro))) n) :
    (lim ft (oraOf 18 true)).call (.fn 69 [] []) [.int .i64 lo, .int .i64 hi, .slc (some (b, 0)) 3 c e ck] ⟨h.put b (some (.cells [.int .i64 a1, .int .i64 a2, .int .i64 a3] ro)), n, fl⟩ =
      some (.bool (inB lo hi a1 && inB lo hi a2 && inB lo hi a3), ⟨h.put b (some (.cells [.int .i64 a1, .int .i64 a2, .int .i64 a3] ro)), n, fl⟩) := by
  have := within_list (lo := lo) (hi := hi) (l := [a1, a2, a3]) (e := e) (ck := ck) (c := c) (fl := fl) (by simp) hget_eq hf
  simpa [ints, Bool.and_assoc] using this
end
end Go.AM
