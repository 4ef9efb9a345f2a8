/- A reach put in between changes nothing. -/
import Derived.Test.YtidlikbpbkgbaaaDD
import Derived.Test.YtidlikbpbkgbaaaL5
import Derived.Test.YtidlikbpbkgbaaaDE
set_option linter.all false
set_option linter.unusedVariables false
set_option linter.unusedSimpArgs false
set_option linter.unusedSectionVars false
namespace Go.AM

/-- The number of a reach, or of the boom, behind the one that is put in. -/
def fi (i : Nat) (j : Int) : Int := if (i : Int) < j then j + 1 else j
def Reach.putD (i : Nat) (r : Reach) : Reach := ⟨fi i r.down, r.pass, r.takes, r.lo, r.hi, r.every, r.logs, r.ready⟩
def Reach.downTo (j : Int) (r : Reach) : Reach := ⟨j, r.pass, r.takes, r.lo, r.hi, r.every, r.logs, r.ready⟩
def newR (days : Int) (j : Int) : Reach := ⟨j, 1000, 0, 1, days, 1, 0, 1⟩
/-- What the list is behind so many rounds. -/
def putL (R : River) (i : Nat) : Nat → List Reach
  | 0 => []
  | k + 1 => putL R i k ++ (if k = i then [((R.at k).putD i).downTo (i + 1), newR R.days (fi i (R.at k).down)] else [(R.at k).putD i])
def River.put (R : River) (i : Nat) : River := ⟨R.days, putL R i R.rs.length⟩
theorem putL_len {R : River} {i : Nat} : ∀ k, (putL R i k).length = if i < k then k + 1 else k
  | 0 => by simp [putL]
  | k + 1 => by
    rw [putL, List.length_append, putL_len k]
    by_cases c : k = i
    · subst c; simp
    · simp only [c, if_false, List.length_singleton]
      by_cases c1 : i < k
      · rw [if_pos c1, if_pos (by omega)]
      · rw [if_neg c1, if_neg (by omega)]
theorem putL_at {R : River} {i : Nat} : ∀ {k u : Nat}, u < k → (putL R i k)[if i < u then u + 1 else u]? = some (if u = i then ((R.at u).putD i).downTo (i + 1) else (R.at u).putD i)
  | 0, u, h => by omega
  | k + 1, u, h => by
    by_cases c : u = k
    · subst c
      rw [putL, List.getElem?_append_right (by rw [putL_len]; exact Nat.le_refl _), putL_len, Nat.sub_self]
      split <;> rfl
    · rw [putL, List.getElem?_append_left (by rw [putL_len]; split <;> split <;> omega), putL_at (show u < k by omega)]
theorem putL_new {R : River} {i : Nat} : ∀ {k : Nat}, i < k → (putL R i k)[i + 1]? = some (newR R.days (fi i (R.at i).down))
  | 0, h => by omega
  | k + 1, h => by
    by_cases c : k = i
    · subst c
      rw [putL, List.getElem?_append_right (by rw [putL_len, if_neg (Nat.lt_irrefl _)]; omega), putL_len, if_neg (Nat.lt_irrefl _)]
      simp
    · rw [putL, List.getElem?_append_left (by rw [putL_len, if_pos (by omega)]; omega), putL_new (by omega)]
theorem put_len {R : River} {i : Nat} (hi : i < R.rs.length) : (R.put i).rs.length = R.rs.length + 1 := by
  show (putL R i R.rs.length).length = _
  rw [putL_len, if_pos hi]
theorem put_lo {R : River} {i u : Nat} (hu : u < R.rs.length) (h : u < i) : (R.put i).at u = (R.at u).putD i := by
  have := putL_at (R := R) (i := i) hu
  rw [if_neg (by omega), if_neg (by omega)] at this
  exact at_of this
theorem put_i {R : River} {i : Nat} (hu : i < R.rs.length) : (R.put i).at i = ((R.at i).putD i).downTo (i + 1) := by
  have := putL_at (R := R) (i := i) hu
  rw [if_neg (by omega), if_pos rfl] at this
  exact at_of this
theorem put_n {R : River} {i : Nat} (hu : i < R.rs.length) : (R.put i).at (i + 1) = newR R.days (fi i (R.at i).down) := at_of (putL_new hu)
theorem put_hi {R : River} {i u : Nat} (hu : u < R.rs.length) (h : i < u) : (R.put i).at (u + 1) = (R.at u).putD i := by
  have := putL_at (R := R) (i := i) hu
  rw [if_pos h, if_neg (by omega)] at this
  exact at_of this
theorem ranged_new {D : Int} (hd : 1 ≤ D) {j : Int} : RangeOK (newR D j) D :=
  ⟨by show (0:Int) ≤ 1000; omega, by show (1000:Int) ≤ 1000; omega, by show (0:Int) ≤ 0; omega, by show (0:Int) ≤ 10; omega, by show (1:Int) ≤ 1; omega, by show (1:Int) ≤ 10; omega, by show (1:Int) ≤ 1; omega, by show D ≤ D; omega, by show 1 ≤ D; omega, by show (0:Int) ≤ 0; omega, by show (0:Int) ≤ 10000; omega, by show (1:Int) ≤ 1; omega, by show 1 ≤ D; omega⟩
theorem put_valid {R : River} (hv : Valid R) {i : Nat} (hi : i < R.rs.length) (h8 : R.rs.length < 8) : Valid (R.put i) := by
  refine valid_of hv.d1 hv.d2 (by rw [put_len hi]; omega) (by rw [put_len hi]; omega) fun k hk => ?_
  rw [put_len hi] at hk ⊢
  have key : ∀ u, u < R.rs.length → ∀ j : Int, RangeOK (((R.at u).putD i).downTo j) R.days := fun u hu j => by
    have ok := hv.ok hu
    exact ⟨ok.p1, ok.p2, ok.t1, ok.t2, ok.e1, ok.e2, ok.w1, ok.w2, ok.w3, ok.l1, ok.l2, ok.r1, ok.r2⟩
  have key2 : ∀ u, u < R.rs.length → RangeOK ((R.at u).putD i) R.days := fun u hu => key u hu _
  rcases Nat.lt_trichotomy k i with c | c | c
  · rw [put_lo (by omega) c]
    refine ⟨?_, key2 k (by omega)⟩
    have := hv.dn (show k < R.rs.length by omega)
    unfold downOK at this ⊢
    show fi i (R.at k).down = -1 ∨ _ < fi i (R.at k).down ∧ fi i (R.at k).down < _
    unfold fi
    split <;> omega
  · subst c
    rw [put_i hi]
    refine ⟨.inr ⟨?_, ?_⟩, key k hi _⟩
    · show (k : Int) < (k : Int) + 1; omega
    · show (k : Int) + 1 < _; omega
  · obtain ⟨u, rfl⟩ : ∃ u, k = u + 1 := ⟨k - 1, by omega⟩
    by_cases c2 : u = i
    · subst c2
      rw [put_n hi]
      refine ⟨?_, ranged_new hv.d1⟩
      have := hv.dn hi
      unfold downOK at this ⊢
      show fi u (R.at u).down = -1 ∨ _ < fi u (R.at u).down ∧ fi u (R.at u).down < _
      unfold fi
      split <;> omega
    · rw [put_hi (by omega) (by omega)]
      refine ⟨?_, key2 u (by omega)⟩
      have := hv.dn (show u < R.rs.length by omega)
      unfold downOK at this ⊢
      show fi i (R.at u).down = -1 ∨ _ < fi i (R.at u).down ∧ fi i (R.at u).down < _
      unfold fi
      split <;> omega

theorem sum_put {f g : Nat → Int} {i : Nat} (h1 : ∀ u, u < i → f u = g u) (h2 : f i = 0) (h3 : f (i + 1) = g i) : ∀ {K : Nat}, i < K → (∀ u, i < u → u < K → f (u + 1) = g u) → sumTo f (K + 1) = sumTo g K
  | 0, h, _ => by omega
  | K + 1, h, h4 => by
    by_cases c : i = K
    · subst c
      show sumTo f i + f i + f (i + 1) = sumTo g i + g i
      rw [h2, h3, sumTo_congr h1]; omega
    · show sumTo f (K + 1) + f (K + 1) = sumTo g K + g K
      rw [sum_put h1 h2 h3 (K := K) (by omega) fun u a b => h4 u a (by omega), h4 K (by omega) (by omega)]

/-- No more come above a reach than there are logs in all. -/
def logsTo (R : River) (k : Nat) : Int := sumTo (fun u => (R.at u).logs) k
theorem cutsum {R : River} (hv : Valid R) (d : Nat) : ∀ k, k ≤ R.rs.length → sumTo (fun u => if (k : Int) ≤ (R.at u).down ∨ (R.at u).down = -1 then com R u d else 0) k ≤ logsTo R k
  | 0, _ => Int.le_refl _
  | k + 1, hk => by
    have ih := cutsum hv d k (by omega)
    have hkk : k < R.rs.length := by omega
    show sumTo _ k + (if ((k + 1 : Nat) : Int) ≤ (R.at k).down ∨ (R.at k).down = -1 then com R k d else 0) ≤ logsTo R k + (R.at k).logs
    have hdk := hv.dn hkk
    rw [if_pos (by unfold downOK at hdk; omega)]
    have ok := hv.ok hkk
    have hc : com R k d ≤ (R.at k).logs + sumTo (fun u => if (R.at u).down = (k : Int) then com R u d else 0) k := by
      unfold com
      have h1 : (if (R.at k).ready ≤ (d : Int) then (R.at k).logs else 0) ≤ (R.at k).logs := by have := ok.l1; split <;> omega
      have h2 := sumTo_le (f := fun u => if (R.at u).down = (k : Int) then ent R u (d - (R.at u).takes.toNat) else 0) (g := fun u => if (R.at u).down = (k : Int) then com R u d else 0) (k := k) (fun u hu => by
        split
        · have e1 := (ent_facts hv.nonneg u d).2.2.1
          have e2 := ent_mono hv.nonneg (i := u) (show d - (R.at u).takes.toNat ≤ d by omega)
          omega
        · omega)
      have h2' : sumTo (fun u => if (R.at u).down = (k : Int) then ent R u (d - (R.at u).takes.toNat) else 0) k ≤ sumTo (fun u => if (R.at u).down = (k : Int) then com R u d else 0) k := h2
      unfold com at h2'
      omega
    have hsp : sumTo (fun u => if ((k + 1 : Nat) : Int) ≤ (R.at u).down ∨ (R.at u).down = -1 then com R u d else 0) k + sumTo (fun u => if (R.at u).down = (k : Int) then com R u d else 0) k = sumTo (fun u => if (k : Int) ≤ (R.at u).down ∨ (R.at u).down = -1 then com R u d else 0) k := by
      rw [← sumTo_add]
      refine sumTo_congr fun u hu => ?_
      by_cases c : (R.at u).down = (k : Int)
      · rw [if_pos c, if_neg (by omega), if_pos (by omega)]; omega
      · rw [if_neg c]
        by_cases c2 : (k : Int) ≤ (R.at u).down ∨ (R.at u).down = -1
        · rw [if_pos c2, if_pos (by omega)]; omega
        · rw [if_neg c2, if_neg (by omega)]; rfl
    omega
theorem com_logs {R : River} (hv : Valid R) {i : Nat} (hi : i < R.rs.length) (d : Nat) : com R i d ≤ logsTo R R.rs.length := by
  have h1 := cutsum hv d (i + 1) (by omega)
  have hdk := hv.dn hi
  have hnn : ∀ u, 0 ≤ com R u d := fun u => by
    have e1 := (ent_facts hv.nonneg u d).2.2.1
    have e2 := (ent_facts hv.nonneg u d).1
    omega
  have h2 : com R i d ≤ sumTo (fun u => if ((i + 1 : Nat) : Int) ≤ (R.at u).down ∨ (R.at u).down = -1 then com R u d else 0) (i + 1) := by
    show _ ≤ sumTo _ i + (if ((i + 1 : Nat) : Int) ≤ (R.at i).down ∨ (R.at i).down = -1 then com R i d else 0)
    rw [if_pos (by unfold downOK at hdk; omega)]
    have := sumTo_nonneg (f := fun u => if ((i + 1 : Nat) : Int) ≤ (R.at u).down ∨ (R.at u).down = -1 then com R u d else 0) (k := i) fun u _ => by
      split
      · exact hnn u
      · omega
    omega
  have h3 : ∀ k, k ≤ R.rs.length → ∀ j, j ≤ k → logsTo R j ≤ logsTo R k := by
    intro k
    induction k with
    | zero => intro _ j hj; have : j = 0 := by omega
              subst this; exact Int.le_refl _
    | succ k ih =>
      intro hk j hj
      by_cases c : j = k + 1
      · subst c; exact Int.le_refl _
      · have := ih (by omega) j (by omega)
        have := (hv.ok (show k < R.rs.length by omega)).l1
        show logsTo R j ≤ logsTo R k + (R.at k).logs
        omega
  have := h3 R.rs.length (Nat.le_refl _) (i + 1) (by omega)
  omega

theorem fi_lo {i : Nat} {j : Int} {k : Nat} (hk : k ≤ i) : fi i j = (k : Int) ↔ j = (k : Int) := by unfold fi; split <;> omega
theorem fi_hi {i : Nat} {j : Int} {k : Nat} (hk : i < k) : fi i j = ((k + 1 : Nat) : Int) ↔ j = (k : Int) := by unfold fi; split <;> omega
theorem fi_m {i : Nat} {j : Int} : fi i j = -1 ↔ j = -1 := by unfold fi; split <;> omega
theorem fi_n {i : Nat} {j : Int} : ¬ fi i j = ((i + 1 : Nat) : Int) := by unfold fi; split <;> omega

theorem put_same {R : River} {i D : Nat} (hv : Valid R) (hd : R.days = (D : Int)) (hi : i < R.rs.length) (hs : logsTo R R.rs.length ≤ 1000) :
    ∀ k, k < R.rs.length → (∀ d, d ≤ D → ent (R.put i) (if i < k then k + 1 else k) d = ent R k d) ∧ (k = i → ∀ d, d ≤ D → ent (R.put i) (i + 1) d = ent R i (d - (R.at i).takes.toNat)) := by
  intro k
  induction k using Nat.strongRecOn with
  | _ k ih =>
    intro hk
    have step : (∀ d, d ≤ D → com (R.put i) (if i < k then k + 1 else k) d = com R k d) → ∀ r : Reach, (R.put i).at (if i < k then k + 1 else k) = r → r.lo = (R.at k).lo → r.hi = (R.at k).hi → r.every = (R.at k).every → r.pass = (R.at k).pass →
        ∀ d, d ≤ D → ent (R.put i) (if i < k then k + 1 else k) d = ent R k d := by
      intro hc r hr a1 a2 a3 a4 d
      induction d with
      | zero => intro _; rw [ent_zero, ent_zero]
      | succ d ihd =>
        intro hdd
        rw [ent_succ, ent_succ, ihd (by omega), hc _ hdd, hr]
        have : isOpen r ((d : Int) + 1) = isOpen (R.at k) ((d : Int) + 1) := by unfold isOpen; rw [a1, a2, a3]
        rw [this, a4]
    rcases Nat.lt_trichotomy k i with c | c | c
    · refine ⟨step (fun d hdd => ?_) ((R.at k).putD i) ?_ rfl rfl rfl rfl, fun e => by omega⟩
      · rw [if_neg (by omega)]
        unfold com
        rw [put_lo hk c]
        show (if (R.at k).ready ≤ (d : Int) then (R.at k).logs else 0) + _ = _
        congr 1
        refine sumTo_congr fun u hu => ?_
        rw [put_lo (by omega) (by omega)]
        show (if fi i (R.at u).down = (k : Int) then ent (R.put i) u (d - (R.at u).takes.toNat) else 0) = _
        have h1 := (ih u hu (by omega)).1 (d - (R.at u).takes.toNat) (by omega)
        rw [if_neg (by omega)] at h1
        rw [h1]
        simp only [fi_lo (show k ≤ i by omega)]
      · rw [if_neg (by omega)]; exact put_lo hk c
    · subst c
      have e0 : ∀ d, d ≤ D → ent (R.put k) (if k < k then k + 1 else k) d = ent R k d := step (fun d hdd => by
        rw [if_neg (by omega)]
        unfold com
        rw [put_i hi]
        show (if (R.at k).ready ≤ (d : Int) then (R.at k).logs else 0) + _ = _
        congr 1
        refine sumTo_congr fun u hu => ?_
        rw [put_lo (by omega) (by omega)]
        show (if fi k (R.at u).down = (k : Int) then ent (R.put k) u (d - (R.at u).takes.toNat) else 0) = _
        have h1 := (ih u hu (by omega)).1 (d - (R.at u).takes.toNat) (by omega)
        rw [if_neg (by omega)] at h1
        rw [h1]
        simp only [fi_lo (Nat.le_refl k)]) (((R.at k).putD k).downTo (k + 1)) (by rw [if_neg (by omega)]; exact put_i hi) rfl rfl rfl rfl
      refine ⟨e0, fun _ => ?_⟩
      have hcn : ∀ d, 1 ≤ d → d ≤ D → com (R.put k) (k + 1) d = ent R k (d - (R.at k).takes.toNat) := fun d hd1 hdd => by
        unfold com
        rw [put_n hi]
        show (if (1 : Int) ≤ (d : Int) then (0 : Int) else 0) + (sumTo _ k + _) = _
        rw [sumTo_zero fun u hu => by
          rw [put_lo (by omega) (by omega)]
          show (if fi k (R.at u).down = ((k + 1 : Nat) : Int) then _ else (0 : Int)) = 0
          rw [if_neg fi_n]]
        dsimp only
        rw [put_i hi]
        show _ + (0 + if (k : Int) + 1 = ((k + 1 : Nat) : Int) then ent (R.put k) k (d - (R.at k).takes.toNat) else 0) = _
        have h1 := e0 (d - (R.at k).takes.toNat) (by omega)
        rw [if_neg (by omega)] at h1
        rw [if_pos (by omega), h1]
        split <;> omega
      intro d
      induction d with
      | zero => intro _; rw [ent_zero, Nat.zero_sub, ent_zero]
      | succ d ihd =>
        intro hdd
        have ho : isOpen ((R.put k).at (k + 1)) ((d : Int) + 1) = true := by
          rw [put_n hi, isOpen_iff]
          show (1 : Int) ≤ (d : Int) + 1 ∧ (d : Int) + 1 ≤ R.days ∧ ((d : Int) + 1 - 1) % 1 = 0
          refine ⟨by omega, by omega, Int.emod_one _⟩
        rw [ent_succ, ho, if_pos rfl, hcn (d + 1) (by omega) hdd, put_n hi]
        show min (_ + 1000) _ = _
        have h1 := (ent_facts hv.nonneg k (d + 1 - (R.at k).takes.toNat)).2.2.1
        have h2 := com_logs hv hi (d + 1 - (R.at k).takes.toNat)
        rw [ihd (by omega)]
        have h3 := (ent_facts hv.nonneg k (d - (R.at k).takes.toNat)).1
        omega
    · refine ⟨step (fun d hdd => ?_) ((R.at k).putD i) ?_ rfl rfl rfl rfl, fun e => by omega⟩
      · rw [if_pos c]
        unfold com
        rw [put_hi hk c]
        show (if (R.at k).ready ≤ (d : Int) then (R.at k).logs else 0) + _ = _
        congr 1
        refine sum_put (i := i) (fun u hu => ?_) ?_ ?_ c (fun u a b => ?_)
        · rw [put_lo (by omega) hu]
          show (if fi i (R.at u).down = ((k + 1 : Nat) : Int) then ent (R.put i) u (d - (R.at u).takes.toNat) else 0) = _
          have h1 := (ih u (by omega) (by omega)).1 (d - (R.at u).takes.toNat) (by omega)
          rw [if_neg (by omega)] at h1
          rw [h1]
          simp only [fi_hi c]
        · rw [put_i hi]
          show (if (i : Int) + 1 = ((k + 1 : Nat) : Int) then _ else (0 : Int)) = 0
          rw [if_neg (by omega)]
        · rw [put_n hi]
          show (if fi i (R.at i).down = ((k + 1 : Nat) : Int) then ent (R.put i) (i + 1) (d - 0) else 0) = _
          rw [Nat.sub_zero, (ih i c hi).2 rfl d hdd]
          simp only [fi_hi c]
        · rw [put_hi (by omega) a]
          show (if fi i (R.at u).down = ((k + 1 : Nat) : Int) then ent (R.put i) (u + 1) (d - (R.at u).takes.toNat) else 0) = _
          have h1 := (ih u b (by omega)).1 (d - (R.at u).takes.toNat) (by omega)
          rw [if_pos a] at h1
          rw [h1]
          simp only [fi_hi c]
      · rw [if_pos c]; exact put_hi hk c
theorem bom_put {R : River} {i D d : Nat} (hv : Valid R) (hd : R.days = (D : Int)) (hi : i < R.rs.length) (hs : logsTo R R.rs.length ≤ 1000) (hdd : d ≤ D) : bom (R.put i) d = bom R d := by
  have ps := put_same hv hd hi hs
  unfold bom
  rw [put_len hi]
  refine sum_put (i := i) (fun u hu => ?_) ?_ ?_ hi (fun u a b => ?_)
  · rw [put_lo (by omega) hu]
    show (if fi i (R.at u).down = -1 then ent (R.put i) u (d - (R.at u).takes.toNat) else 0) = _
    have h1 := (ps u (by omega)).1 (d - (R.at u).takes.toNat) (by omega)
    rw [if_neg (by omega)] at h1
    rw [h1]
    simp only [fi_m]
  · rw [put_i hi]
    show (if (i : Int) + 1 = -1 then _ else (0 : Int)) = 0
    rw [if_neg (by omega)]
  · rw [put_n hi]
    show (if fi i (R.at i).down = -1 then ent (R.put i) (i + 1) (d - 0) else 0) = _
    rw [Nat.sub_zero, (ps i hi).2 rfl d hdd]
    simp only [fi_m]
  · rw [put_hi b a]
    show (if fi i (R.at u).down = -1 then ent (R.put i) (u + 1) (d - (R.at u).takes.toNat) else 0) = _
    have h1 := (ps u b).1 (d - (R.at u).takes.toNat) (by omega)
    rw [if_pos a] at h1
    rw [h1]
    simp only [fi_m]
end Go.AM
/- DrivePut: a reach that lets all by. -/
namespace Go.AM
open Go
noncomputable section
variable {tm tm' : T AV} {σ σ' : AS} {h h' : T AObj} {n n' fl : Nat} {v w : AV} {sl P C B : AV} {g : List Int}

mutual
theorem AV.beq_refl : ∀ v : AV, v.beq v = true
  | .bool _ => by simp [AV.beq]
  | .int _ _ => by simp [AV.beq]
  | .str _ => by simp [AV.beq]
  | .ptr _ => by simp [AV.beq]
  | .slc _ _ _ _ _ => by simp [AV.beq]
  | .map _ => by simp [AV.beq]
  | .fn _ x y => by simp [AV.beq, AV.beqs_refl x, AV.beqs_refl y]
  | .yld _ => by simp [AV.beq]
  | .nilFn => by simp [AV.beq]
  | .agg a => by simp [AV.beq, AV.beqs_refl a]
  | .tup a => by simp [AV.beq, AV.beqs_refl a]
theorem AV.beqs_refl : ∀ l : List AV, AV.beqs l l = true
  | [] => by simp [AV.beqs]
  | x :: l => by simp [AV.beqs, AV.beq_refl x, AV.beqs_refl l]
end
theorem reC_any {X : Fns} {base : Nat} {l : List Stp} {v : AV} : reC X base l tm σ (some (v, σ')) (some v) = runSteps X base l tm σ := reC_s (AV.beq_refl v)

theorem reach_call {a1 a2 a3 a4 a5 a6 a7 a8 : Int} (c : fl ≤ n) : (lim ft (oraOf 10 true)).call (.fn 21 [] []) [.int .i64 a1, .int .i64 a2, .int .i64 a3, .int .i64 a4, .int .i64 a5, .int .i64 a6, .int .i64 a7, .int .i64 a8] ⟨h, n, fl⟩ =
    some (.agg [.int .i64 a1, .int .i64 a2, .int .i64 a3, .int .i64 a4, .int .i64 a5, .int .i64 a6, .int .i64 a7, .int .i64 a8], ⟨h.put n (some (.cells [.int .i64 a1, .int .i64 a2, .int .i64 a3, .int .i64 a4, .int .i64 a5, .int .i64 a6, .int .i64 a7, .int .i64 a8] false)), n + 1, fl⟩) := by
  refine call_eqn rfl (by rfl) rfl rfl fun R hR => ?_
  simp -implicitDefEqProofs only [a21, ev0, ev1, ev2, ev3, ev4, ev5, ev6, ev7, evx, if_true, if_false, Nat.reduceEqDiff, Nat.reduceAdd, Nat.reduceMul, Nat.reduceSub, ↓reduceIte, reduceCtorEq, Nat.reduceLeDiff, Nat.reduceLT, Int.reduceLE, Int.reduceLT, Int.reduceEq, Int.reduceNeg, Int.reduceToNat, c]
  exact hR _ _ (by simp) (by simp -implicitDefEqProofs only [a21, ev0, ev1, ev2, ev3, ev4, ev5, ev6, ev7, evx, if_true, if_false, Nat.reduceEqDiff, Nat.reduceAdd, Nat.reduceMul, Nat.reduceSub, ↓reduceIte, reduceCtorEq, Nat.reduceLeDiff, Nat.reduceLT, Int.reduceLE, Int.reduceLT, Int.reduceEq, Int.reduceNeg, Int.reduceToNat])

theorem logs_up {R : River} (hv : Valid R) : ∀ k, k ≤ R.rs.length → 0 ≤ logsTo R k ∧ logsTo R k ≤ 10000 * k
  | 0, _ => by simp [logsTo, sumTo]
  | k + 1, hk => by
    have := logs_up hv k (by omega)
    have ok := hv.ok (show k < R.rs.length by omega)
    have h1 := ok.l1
    have h2 := ok.l2
    show 0 ≤ logsTo R k + (R.at k).logs ∧ logsTo R k + (R.at k).logs ≤ _
    omega

theorem rc_app (rs rs2 : List Reach) : cellsOf (rs ++ rs2) = cellsOf rs ++ cellsOf rs2 := by unfold cellsOf; rw [List.flatMap_append]
theorem put_L0 {R : River} {i m0 : Nat} {u2 : AV} (hv : Valid R) (hi : i < R.rs.length) (hs : SlV h 8 (some 8) sl (R.rs.map Reach.av)) (hf : Fresh h m0) (hn : n + 1 < m0) (hfl : fl ≤ n)
    (hsn : ∀ b, blkOf sl = some b → b < n)
    (hb : h.get n = some (.cells [.int .i64 R.days, sl] false)) (hb1 : h.get (n + 1) = some (.cells [.int .i64 R.days, .slc none 0 0 31 .exact] false))
    (h3 : tm.get 3 = some (.ptr (some (n, 0)))) (h7 : tm.get 7 = some (.int .i64 (i : Int))) (h8 : tm.get 8 = some (.int .i64 0)) (h9 : tm.get 9 = some (.ptr (some (n + 1, 0)))) (h10 : tm.get 10 = some (.int .i64 0)) (h2 : tm.get 2 = some u2) :
    Done ((lim ft (oraOf 10 true)).exec (.loop a7_L0) tm ⟨h, m0, fl⟩) fun x tm' σ' => x = .exit 0 ∧ ∃ h2 m2 Q, σ' = ⟨h2, m2, fl⟩ ∧ m0 ≤ m2 ∧ Fresh h2 m2 ∧ Agree (n + 1) h h2 ∧
      h2.get (n + 1) = some (.cells [.int .i64 R.days, Q] false) ∧ GrowSl h2 31 8 Q (R.rs.length + 1) (cellsOf (R.put i).rs) ∧ tm'.get 3 = some (.ptr (some (n, 0))) ∧ tm'.get 8 = some (.int .i64 (logsTo R R.rs.length)) ∧ tm'.get 9 = some (.ptr (some (n + 1, 0))) ∧ tm'.get 2 = some u2 := by
  have hl1 := hv.l1
  have hl8 := hv.l2
  obtain ⟨a, c, e, ck, rfl⟩ := hs.shape (List.length_map _)
  refine loop_up (fun k tm σ => tm.get 3 = some (.ptr (some (n, 0))) ∧ tm.get 7 = some (.int .i64 (i : Int)) ∧ tm.get 8 = some (.int .i64 (logsTo R k)) ∧ tm.get 9 = some (.ptr (some (n + 1, 0))) ∧ tm.get 10 = some (.int .i64 (k : Int)) ∧ tm.get 2 = some u2 ∧
      ∃ h2 m2 Q, σ = ⟨h2, m2, fl⟩ ∧ m0 ≤ m2 ∧ Fresh h2 m2 ∧ Agree (n + 1) h h2 ∧ h2.get (n + 1) = some (.cells [.int .i64 R.days, Q] false) ∧ (∃ len, len = (putL R i k).length ∧ GrowSl h2 31 8 Q len (cellsOf (putL R i k))) ∧ ∀ b, blkOf Q = some b → m0 ≤ b) _ R.rs.length ?_ ?_
    R.rs.length 0 tm _ (by simp) ⟨h3, h7, h8, h9, h10, h2, h, m0, _, rfl, Nat.le_refl _, hf, Agree.refl, hb1, ⟨0, rfl, GrowSl.nil⟩, fun b e => by cases e⟩
  · intro k tm σ hk ⟨h3, h7, h8, h9, h10, h2, hh, m, Q, hσ, hm, hfm, ha, hx, ⟨len, hlen, hg⟩, hq⟩ S hI hQ
    subst hσ
    have hlt : ((k : Int) < (R.rs.length : Int)) := by omega
    have hw : wrapF .i64 ((k : Int) + 1) = ((k + 1 : Nat) : Int) := by rw [wrap64 (by omega) (by omega)]; omega
    have hw2 : wrapF .i64 ((i : Int) + 1) = (i : Int) + 1 := wrap64 (by omega) (by omega)
    have hsm := hs.keep (h' := hh) fun b hb => ha b (by have := hsn b hb; omega)
    have hxk : (R.rs.map Reach.av)[k]? = some (Reach.av (R.at k)) := by rw [List.getElem?_map, List.getElem?_eq_getElem hk, at_of (List.getElem?_eq_getElem hk)]; rfl
    obtain ⟨sb, o, c', e', ck', q1, q2, q3, _⟩ := hsm.many hfm hxk (List.length_map _)
    have q0 : a = some (sb, o) := by injection q1
    subst q0
    have b0 : hh.get n = some (.cells [.int .i64 R.days, .slc (some (sb, o)) R.rs.length c e ck] false) := by rw [ha n (by omega), hb]
    have ok := hv.ok hk
    have dk := hv.dn hk
    have lu := logs_up hv k (by omega)
    have o7 := ok.l1
    have o8 := ok.l2
    have hlen8 : len ≤ 9 := by rw [hlen, putL_len]; split <;> omega
    have v1 : wrapF .i64 (logsTo R k + (R.at k).logs) = logsTo R (k + 1) := by rw [wrap64 (by omega) (by omega)]; rfl
    have v2 : wrapF .i64 ((R.at k).down + 1) = (R.at k).down + 1 := by unfold downOK at dk; exact wrap64 (by omega) (by omega)
    have nm : (n = m) = False := by simp; omega
    have nm1 : (n = m + 1) = False := by simp; omega
    have nm2 : (n = m + 2) = False := by simp; omega
    have xm : (n + 1 = m) = False := by simp; omega
    have xm1 : (n = m) = False := by simp; omega
    have xm2 : (n = m + 1) = False := by simp; omega
    have xm3 : (n + 1 = m + 2) = False := by simp; omega
    have sm : (sb = m) = False := by simp; omega
    have flm : fl ≤ m := by omega
    have flm1 : fl ≤ m + 2 := by omega
    have fln : fl ≤ n + 1 := by omega
    by_cases hki : k = i
    · subst hki
      have hrs : putL R k (k + 1) = putL R k k ++ [((R.at k).putD k).downTo (k + 1), newR R.days (fi k (R.at k).down)] := by rw [putL, if_pos rfl]
      have g2 := ((hg.put (b := m) (o := some (.cells (((R.at k).putD k).downTo (k + 1)).cl false)) (fun e => by have := hg.lt hfm e; omega)).put (b := m + 2) (o := some (.cells (newR R.days (fi k (R.at k).down)).cl false)) (fun e => by have := hg.lt hfm e; omega)).put (b := m + 1) (o := some (.cells ((((R.at k).putD k).downTo (k + 1)).cl ++ (newR R.days (fi k (R.at k).down)).cl) false)) (fun e => by have := hg.lt hfm e; omega)
      have f2 := ((hfm.put (b := m) (o := some (.cells (((R.at k).putD k).downTo (k + 1)).cl false)) (n' := m + 1) (by omega) (by omega)).put (b := m + 2) (o := some (.cells (newR R.days (fi k (R.at k).down)).cl false)) (n' := m + 3) (by omega) (by omega)).put (b := m + 1) (o := some (.cells ((((R.at k).putD k).downTo (k + 1)).cl ++ (newR R.days (fi k (R.at k).down)).cl) false)) (n' := m + 3) (by omega) (by omega)
      obtain ⟨h4', ea, eg, ef, ek⟩ := g2.append (fl := fl) (bytes := 64) (k := 2) (bx := m + 1) (ox := 0) (c := 2) (e := 31) (ck := .exact) (new := (((R.at k).putD k).downTo (k + 1)).cl ++ (newR R.days (fi k (R.at k).down)).cl) (fun b hb' => by have := hq b hb'; omega) f2
        (by rw [hget_eq, rdk_s]; rfl) (by omega) (by omega) rfl rfl
      have hbx : h4'.get (n + 1) = some (.cells [.int .i64 R.days, Q] false) := by rw [ek _ (by omega) (fun e => by have := hq _ e; omega), hget_ne (by omega), hget_ne (by omega), hget_ne (by omega), hx]
      have fin : ∀ tm' : T AV, tm'.get 3 = some (.ptr (some (n, 0))) → tm'.get 7 = some (.int .i64 (k : Int)) → tm'.get 8 = some (.int .i64 (logsTo R (k + 1))) → tm'.get 9 = some (.ptr (some (n + 1, 0))) → tm'.get 10 = some (.int .i64 ((k + 1 : Nat) : Int)) → tm'.get 2 = some u2 →
          S .normal tm' ⟨h4'.put (n + 1) (some (.cells [.int .i64 R.days, .slc (some (m + 3, 0)) (len + 2) (len + 2) 31 .tail] false)), m + 4, fl⟩ := fun tm' t1 t2 t3 t4 t5 t6 => by
        refine hI _ _ ⟨t1, t2, t3, t4, t5, t6, _, m + 4, .slc (some (m + 3, 0)) (len + 2) (len + 2) 31 .tail, rfl, by omega, ef.put (by omega) (by omega), fun b hb' => ?_, by rw [hget_eq], ⟨len + 2, by rw [hlen, hrs, List.length_append]; rfl, ?_⟩, fun b e => by cases e; omega⟩
        · rw [hget_ne (by omega), ek b (by omega) (fun e => by have := hq b e; omega), hget_ne (by omega), hget_ne (by omega), hget_ne (by omega)]; exact ha b hb'
        · rw [hrs, rc_app]
          exact eg.put (fun e => by cases e; omega)
      have er := @reach_call (h := hh.put m (some (.cells (((R.at k).putD k).downTo (k + 1)).cl false))) (n := m + 2) (fl := fl) (fi k (R.at k).down) 1000 0 1 R.days 1 0 1 flm1
      simp only [Reach.putD, Reach.downTo, newR, Reach.cl, List.cons_append, List.nil_append] at ea er
      have hk1 : (k : Int) + 1 = ((k + 1 : Nat) : Int) := by omega
      rw [hk1] at ea er
      by_cases dn : (k : Int) < (R.at k).down
      · have hfi : fi k (R.at k).down = (R.at k).down + 1 := by unfold fi; rw [if_pos dn]
        rw [hfi] at ea er
        simp -implicitDefEqProofs only [a7_L0, ev0, ev1, ev2, ev3, ev4, ev5, ev6, ev7, evx, if_true, if_false, Nat.reduceEqDiff, Nat.reduceAdd, Nat.reduceMul, Nat.reduceSub, ↓reduceIte, reduceCtorEq, Nat.reduceLeDiff, Nat.reduceLT, Int.reduceLE, Int.reduceLT, Int.reduceEq, Int.reduceNeg, Int.reduceToNat, h2, h3, h7, h8, h9, h10, hlt, hw, b0, hx, hk, q3, v1, v2, dn, nm, nm1, nm2, xm, xm1, xm2, xm3, sm, flm, flm1, fln, er, ea, hbx, reC_any]
        exact fin _ (by simp -implicitDefEqProofs only [ev0, ev1, ev2, ev3, ev4, ev5, ev6, ev7, evx, if_true, if_false, Nat.reduceEqDiff, Nat.reduceAdd, Nat.reduceMul, Nat.reduceSub, ↓reduceIte, reduceCtorEq, Nat.reduceLeDiff, Nat.reduceLT, Int.reduceLE, Int.reduceLT, Int.reduceEq, Int.reduceNeg, Int.reduceToNat, h3]) (by simp -implicitDefEqProofs only [ev0, ev1, ev2, ev3, ev4, ev5, ev6, ev7, evx, if_true, if_false, Nat.reduceEqDiff, Nat.reduceAdd, Nat.reduceMul, Nat.reduceSub, ↓reduceIte, reduceCtorEq, Nat.reduceLeDiff, Nat.reduceLT, Int.reduceLE, Int.reduceLT, Int.reduceEq, Int.reduceNeg, Int.reduceToNat, h7]) (by simp -implicitDefEqProofs only [ev0, ev1, ev2, ev3, ev4, ev5, ev6, ev7, evx, if_true, if_false, Nat.reduceEqDiff, Nat.reduceAdd, Nat.reduceMul, Nat.reduceSub, ↓reduceIte, reduceCtorEq, Nat.reduceLeDiff, Nat.reduceLT, Int.reduceLE, Int.reduceLT, Int.reduceEq, Int.reduceNeg, Int.reduceToNat]) (by simp -implicitDefEqProofs only [ev0, ev1, ev2, ev3, ev4, ev5, ev6, ev7, evx, if_true, if_false, Nat.reduceEqDiff, Nat.reduceAdd, Nat.reduceMul, Nat.reduceSub, ↓reduceIte, reduceCtorEq, Nat.reduceLeDiff, Nat.reduceLT, Int.reduceLE, Int.reduceLT, Int.reduceEq, Int.reduceNeg, Int.reduceToNat, h9]) (by simp -implicitDefEqProofs only [ev0, ev1, ev2, ev3, ev4, ev5, ev6, ev7, evx, if_true, if_false, Nat.reduceEqDiff, Nat.reduceAdd, Nat.reduceMul, Nat.reduceSub, ↓reduceIte, reduceCtorEq, Nat.reduceLeDiff, Nat.reduceLT, Int.reduceLE, Int.reduceLT, Int.reduceEq, Int.reduceNeg, Int.reduceToNat]) (by simp -implicitDefEqProofs only [ev0, ev1, ev2, ev3, ev4, ev5, ev6, ev7, evx, if_true, if_false, Nat.reduceEqDiff, Nat.reduceAdd, Nat.reduceMul, Nat.reduceSub, ↓reduceIte, reduceCtorEq, Nat.reduceLeDiff, Nat.reduceLT, Int.reduceLE, Int.reduceLT, Int.reduceEq, Int.reduceNeg, Int.reduceToNat, h2])
      · have hfi : fi k (R.at k).down = (R.at k).down := by unfold fi; rw [if_neg dn]
        rw [hfi] at ea er
        simp -implicitDefEqProofs only [a7_L0, ev0, ev1, ev2, ev3, ev4, ev5, ev6, ev7, evx, if_true, if_false, Nat.reduceEqDiff, Nat.reduceAdd, Nat.reduceMul, Nat.reduceSub, ↓reduceIte, reduceCtorEq, Nat.reduceLeDiff, Nat.reduceLT, Int.reduceLE, Int.reduceLT, Int.reduceEq, Int.reduceNeg, Int.reduceToNat, h2, h3, h7, h8, h9, h10, hlt, hw, b0, hx, hk, q3, v1, v2, dn, nm, nm1, nm2, xm, xm1, xm2, xm3, sm, flm, flm1, fln, er, ea, hbx, reC_any]
        exact fin _ (by simp -implicitDefEqProofs only [ev0, ev1, ev2, ev3, ev4, ev5, ev6, ev7, evx, if_true, if_false, Nat.reduceEqDiff, Nat.reduceAdd, Nat.reduceMul, Nat.reduceSub, ↓reduceIte, reduceCtorEq, Nat.reduceLeDiff, Nat.reduceLT, Int.reduceLE, Int.reduceLT, Int.reduceEq, Int.reduceNeg, Int.reduceToNat, h3]) (by simp -implicitDefEqProofs only [ev0, ev1, ev2, ev3, ev4, ev5, ev6, ev7, evx, if_true, if_false, Nat.reduceEqDiff, Nat.reduceAdd, Nat.reduceMul, Nat.reduceSub, ↓reduceIte, reduceCtorEq, Nat.reduceLeDiff, Nat.reduceLT, Int.reduceLE, Int.reduceLT, Int.reduceEq, Int.reduceNeg, Int.reduceToNat, h7]) (by simp -implicitDefEqProofs only [ev0, ev1, ev2, ev3, ev4, ev5, ev6, ev7, evx, if_true, if_false, Nat.reduceEqDiff, Nat.reduceAdd, Nat.reduceMul, Nat.reduceSub, ↓reduceIte, reduceCtorEq, Nat.reduceLeDiff, Nat.reduceLT, Int.reduceLE, Int.reduceLT, Int.reduceEq, Int.reduceNeg, Int.reduceToNat]) (by simp -implicitDefEqProofs only [ev0, ev1, ev2, ev3, ev4, ev5, ev6, ev7, evx, if_true, if_false, Nat.reduceEqDiff, Nat.reduceAdd, Nat.reduceMul, Nat.reduceSub, ↓reduceIte, reduceCtorEq, Nat.reduceLeDiff, Nat.reduceLT, Int.reduceLE, Int.reduceLT, Int.reduceEq, Int.reduceNeg, Int.reduceToNat, h9]) (by simp -implicitDefEqProofs only [ev0, ev1, ev2, ev3, ev4, ev5, ev6, ev7, evx, if_true, if_false, Nat.reduceEqDiff, Nat.reduceAdd, Nat.reduceMul, Nat.reduceSub, ↓reduceIte, reduceCtorEq, Nat.reduceLeDiff, Nat.reduceLT, Int.reduceLE, Int.reduceLT, Int.reduceEq, Int.reduceNeg, Int.reduceToNat]) (by simp -implicitDefEqProofs only [ev0, ev1, ev2, ev3, ev4, ev5, ev6, ev7, evx, if_true, if_false, Nat.reduceEqDiff, Nat.reduceAdd, Nat.reduceMul, Nat.reduceSub, ↓reduceIte, reduceCtorEq, Nat.reduceLeDiff, Nat.reduceLT, Int.reduceLE, Int.reduceLT, Int.reduceEq, Int.reduceNeg, Int.reduceToNat, h2])
    · have hrs : putL R i (k + 1) = putL R i k ++ [(R.at k).putD i] := by rw [putL, if_neg hki]
      have hki' : ¬ ((k : Int) = (i : Int)) := by omega
      have g2 := (hg.put (b := m) (o := some (.cells ((R.at k).putD i).cl false)) (fun e => by have := hg.lt hfm e; omega)).put (b := m + 1) (o := some (.cells ((R.at k).putD i).cl false)) (fun e => by have := hg.lt hfm e; omega)
      have f2 := (hfm.put (b := m) (o := some (.cells ((R.at k).putD i).cl false)) (n' := m + 1) (by omega) (by omega)).put (b := m + 1) (o := some (.cells ((R.at k).putD i).cl false)) (n' := m + 2) (by omega) (by omega)
      obtain ⟨h4', ea, eg, ef, ek⟩ := g2.append (fl := fl) (bytes := 64) (k := 1) (bx := m + 1) (ox := 0) (c := 1) (e := 31) (ck := .exact) (new := ((R.at k).putD i).cl) (fun b hb' => by have := hq b hb'; omega) f2
        (by rw [hget_eq, rdk_s]; rfl) (by omega) (by omega) rfl rfl
      have hbx : h4'.get (n + 1) = some (.cells [.int .i64 R.days, Q] false) := by rw [ek _ (by omega) (fun e => by have := hq _ e; omega), hget_ne (by omega), hget_ne (by omega), hx]
      have fin : ∀ tm' : T AV, tm'.get 3 = some (.ptr (some (n, 0))) → tm'.get 7 = some (.int .i64 (i : Int)) → tm'.get 8 = some (.int .i64 (logsTo R (k + 1))) → tm'.get 9 = some (.ptr (some (n + 1, 0))) → tm'.get 10 = some (.int .i64 ((k + 1 : Nat) : Int)) → tm'.get 2 = some u2 →
          S .normal tm' ⟨h4'.put (n + 1) (some (.cells [.int .i64 R.days, .slc (some (m + 2, 0)) (len + 1) (len + 1) 31 .tail] false)), m + 3, fl⟩ := fun tm' t1 t2 t3 t4 t5 t6 => by
        refine hI _ _ ⟨t1, t2, t3, t4, t5, t6, _, m + 3, .slc (some (m + 2, 0)) (len + 1) (len + 1) 31 .tail, rfl, by omega, ef.put (by omega) (by omega), fun b hb' => ?_, by rw [hget_eq], ⟨len + 1, by rw [hlen, hrs, List.length_append]; rfl, ?_⟩, fun b e => by cases e; omega⟩
        · rw [hget_ne (by omega), ek b (by omega) (fun e => by have := hq b e; omega), hget_ne (by omega), hget_ne (by omega)]; exact ha b hb'
        · have : cellsOf [(R.at k).putD i] = ((R.at k).putD i).cl := by unfold cellsOf; simp
          rw [hrs, rc_app, this]
          exact eg.put (fun e => by cases e; omega)
      simp only [Reach.putD, Reach.cl] at ea
      by_cases dn : (i : Int) < (R.at k).down
      · have hfi : fi i (R.at k).down = (R.at k).down + 1 := by unfold fi; rw [if_pos dn]
        rw [hfi] at ea
        simp -implicitDefEqProofs only [a7_L0, ev0, ev1, ev2, ev3, ev4, ev5, ev6, ev7, evx, if_true, if_false, Nat.reduceEqDiff, Nat.reduceAdd, Nat.reduceMul, Nat.reduceSub, ↓reduceIte, reduceCtorEq, Nat.reduceLeDiff, Nat.reduceLT, Int.reduceLE, Int.reduceLT, Int.reduceEq, Int.reduceNeg, Int.reduceToNat, h2, h3, h7, h8, h9, h10, hlt, hw, hki', b0, hx, hk, q3, v1, v2, dn, nm, nm1, nm2, xm, xm1, xm2, sm, flm, flm1, fln, ea, hbx, reC_any]
        exact fin _ (by simp -implicitDefEqProofs only [ev0, ev1, ev2, ev3, ev4, ev5, ev6, ev7, evx, if_true, if_false, Nat.reduceEqDiff, Nat.reduceAdd, Nat.reduceMul, Nat.reduceSub, ↓reduceIte, reduceCtorEq, Nat.reduceLeDiff, Nat.reduceLT, Int.reduceLE, Int.reduceLT, Int.reduceEq, Int.reduceNeg, Int.reduceToNat, h3]) (by simp -implicitDefEqProofs only [ev0, ev1, ev2, ev3, ev4, ev5, ev6, ev7, evx, if_true, if_false, Nat.reduceEqDiff, Nat.reduceAdd, Nat.reduceMul, Nat.reduceSub, ↓reduceIte, reduceCtorEq, Nat.reduceLeDiff, Nat.reduceLT, Int.reduceLE, Int.reduceLT, Int.reduceEq, Int.reduceNeg, Int.reduceToNat, h7]) (by simp -implicitDefEqProofs only [ev0, ev1, ev2, ev3, ev4, ev5, ev6, ev7, evx, if_true, if_false, Nat.reduceEqDiff, Nat.reduceAdd, Nat.reduceMul, Nat.reduceSub, ↓reduceIte, reduceCtorEq, Nat.reduceLeDiff, Nat.reduceLT, Int.reduceLE, Int.reduceLT, Int.reduceEq, Int.reduceNeg, Int.reduceToNat]) (by simp -implicitDefEqProofs only [ev0, ev1, ev2, ev3, ev4, ev5, ev6, ev7, evx, if_true, if_false, Nat.reduceEqDiff, Nat.reduceAdd, Nat.reduceMul, Nat.reduceSub, ↓reduceIte, reduceCtorEq, Nat.reduceLeDiff, Nat.reduceLT, Int.reduceLE, Int.reduceLT, Int.reduceEq, Int.reduceNeg, Int.reduceToNat, h9]) (by simp -implicitDefEqProofs only [ev0, ev1, ev2, ev3, ev4, ev5, ev6, ev7, evx, if_true, if_false, Nat.reduceEqDiff, Nat.reduceAdd, Nat.reduceMul, Nat.reduceSub, ↓reduceIte, reduceCtorEq, Nat.reduceLeDiff, Nat.reduceLT, Int.reduceLE, Int.reduceLT, Int.reduceEq, Int.reduceNeg, Int.reduceToNat]) (by simp -implicitDefEqProofs only [ev0, ev1, ev2, ev3, ev4, ev5, ev6, ev7, evx, if_true, if_false, Nat.reduceEqDiff, Nat.reduceAdd, Nat.reduceMul, Nat.reduceSub, ↓reduceIte, reduceCtorEq, Nat.reduceLeDiff, Nat.reduceLT, Int.reduceLE, Int.reduceLT, Int.reduceEq, Int.reduceNeg, Int.reduceToNat, h2])
      · have hfi : fi i (R.at k).down = (R.at k).down := by unfold fi; rw [if_neg dn]
        rw [hfi] at ea
        simp -implicitDefEqProofs only [a7_L0, ev0, ev1, ev2, ev3, ev4, ev5, ev6, ev7, evx, if_true, if_false, Nat.reduceEqDiff, Nat.reduceAdd, Nat.reduceMul, Nat.reduceSub, ↓reduceIte, reduceCtorEq, Nat.reduceLeDiff, Nat.reduceLT, Int.reduceLE, Int.reduceLT, Int.reduceEq, Int.reduceNeg, Int.reduceToNat, h2, h3, h7, h8, h9, h10, hlt, hw, hki', b0, hx, hk, q3, v1, v2, dn, nm, nm1, nm2, xm, xm1, xm2, sm, flm, flm1, fln, ea, hbx, reC_any]
        exact fin _ (by simp -implicitDefEqProofs only [ev0, ev1, ev2, ev3, ev4, ev5, ev6, ev7, evx, if_true, if_false, Nat.reduceEqDiff, Nat.reduceAdd, Nat.reduceMul, Nat.reduceSub, ↓reduceIte, reduceCtorEq, Nat.reduceLeDiff, Nat.reduceLT, Int.reduceLE, Int.reduceLT, Int.reduceEq, Int.reduceNeg, Int.reduceToNat, h3]) (by simp -implicitDefEqProofs only [ev0, ev1, ev2, ev3, ev4, ev5, ev6, ev7, evx, if_true, if_false, Nat.reduceEqDiff, Nat.reduceAdd, Nat.reduceMul, Nat.reduceSub, ↓reduceIte, reduceCtorEq, Nat.reduceLeDiff, Nat.reduceLT, Int.reduceLE, Int.reduceLT, Int.reduceEq, Int.reduceNeg, Int.reduceToNat, h7]) (by simp -implicitDefEqProofs only [ev0, ev1, ev2, ev3, ev4, ev5, ev6, ev7, evx, if_true, if_false, Nat.reduceEqDiff, Nat.reduceAdd, Nat.reduceMul, Nat.reduceSub, ↓reduceIte, reduceCtorEq, Nat.reduceLeDiff, Nat.reduceLT, Int.reduceLE, Int.reduceLT, Int.reduceEq, Int.reduceNeg, Int.reduceToNat]) (by simp -implicitDefEqProofs only [ev0, ev1, ev2, ev3, ev4, ev5, ev6, ev7, evx, if_true, if_false, Nat.reduceEqDiff, Nat.reduceAdd, Nat.reduceMul, Nat.reduceSub, ↓reduceIte, reduceCtorEq, Nat.reduceLeDiff, Nat.reduceLT, Int.reduceLE, Int.reduceLT, Int.reduceEq, Int.reduceNeg, Int.reduceToNat, h9]) (by simp -implicitDefEqProofs only [ev0, ev1, ev2, ev3, ev4, ev5, ev6, ev7, evx, if_true, if_false, Nat.reduceEqDiff, Nat.reduceAdd, Nat.reduceMul, Nat.reduceSub, ↓reduceIte, reduceCtorEq, Nat.reduceLeDiff, Nat.reduceLT, Int.reduceLE, Int.reduceLT, Int.reduceEq, Int.reduceNeg, Int.reduceToNat]) (by simp -implicitDefEqProofs only [ev0, ev1, ev2, ev3, ev4, ev5, ev6, ev7, evx, if_true, if_false, Nat.reduceEqDiff, Nat.reduceAdd, Nat.reduceMul, Nat.reduceSub, ↓reduceIte, reduceCtorEq, Nat.reduceLeDiff, Nat.reduceLT, Int.reduceLE, Int.reduceLT, Int.reduceEq, Int.reduceNeg, Int.reduceToNat, h2])
  · intro tm σ ⟨h3, h7, h8, h9, h10, h2, hh, m, Q, hσ, hm, hfm, ha, hx, ⟨len, hlen, hg⟩, hq⟩ S hQ
    subst hσ
    have hlt : ¬ ((R.rs.length : Int) < (R.rs.length : Int)) := by omega
    have b0 : hh.get n = some (.cells [.int .i64 R.days, .slc a R.rs.length c e ck] false) := by rw [ha n (by omega), hb]
    simp -implicitDefEqProofs only [a7_L0, ev0, ev1, ev2, ev3, ev4, ev5, ev6, ev7, evx, if_true, if_false, Nat.reduceEqDiff, Nat.reduceAdd, Nat.reduceMul, Nat.reduceSub, ↓reduceIte, reduceCtorEq, Nat.reduceLeDiff, Nat.reduceLT, Int.reduceLE, Int.reduceLT, Int.reduceEq, Int.reduceNeg, Int.reduceToNat, h3, h10, hlt, b0]
    rw [putL_len, if_pos hi] at hlen
    subst hlen
    exact hQ _ _ _ (by simp) ⟨rfl, hh, m, Q, rfl, hm, hfm, ha, hx, hg, by simp -implicitDefEqProofs only [ev0, ev1, ev2, ev3, ev4, ev5, ev6, ev7, evx, if_true, if_false, Nat.reduceEqDiff, Nat.reduceAdd, Nat.reduceMul, Nat.reduceSub, ↓reduceIte, reduceCtorEq, Nat.reduceLeDiff, Nat.reduceLT, Int.reduceLE, Int.reduceLT, Int.reduceEq, Int.reduceNeg, Int.reduceToNat, h3], by simp -implicitDefEqProofs only [ev0, ev1, ev2, ev3, ev4, ev5, ev6, ev7, evx, if_true, if_false, Nat.reduceEqDiff, Nat.reduceAdd, Nat.reduceMul, Nat.reduceSub, ↓reduceIte, reduceCtorEq, Nat.reduceLeDiff, Nat.reduceLT, Int.reduceLE, Int.reduceLT, Int.reduceEq, Int.reduceNeg, Int.reduceToNat, h8], by simp -implicitDefEqProofs only [ev0, ev1, ev2, ev3, ev4, ev5, ev6, ev7, evx, if_true, if_false, Nat.reduceEqDiff, Nat.reduceAdd, Nat.reduceMul, Nat.reduceSub, ↓reduceIte, reduceCtorEq, Nat.reduceLeDiff, Nat.reduceLT, Int.reduceLE, Int.reduceLT, Int.reduceEq, Int.reduceNeg, Int.reduceToNat, h9], by simp -implicitDefEqProofs only [ev0, ev1, ev2, ev3, ev4, ev5, ev6, ev7, evx, if_true, if_false, Nat.reduceEqDiff, Nat.reduceAdd, Nat.reduceMul, Nat.reduceSub, ↓reduceIte, reduceCtorEq, Nat.reduceLeDiff, Nat.reduceLT, Int.reduceLE, Int.reduceLT, Int.reduceEq, Int.reduceNeg, Int.reduceToNat, h2]⟩

theorem FirstOf.congrN {b b' : Nat → Bool} {N : Nat} {r : Int} (h : FirstOf b N r) (he : ∀ j, j < N → b j = b' j) : FirstOf b' N r := by
  rcases h with ⟨h1, h2⟩ | ⟨k, k1, k2, k3, k4⟩
  · exact .inl ⟨h1, fun j hj => by rw [← he j hj]; exact h2 j hj⟩
  · exact .inr ⟨k, k1, k2, by rw [← he k k1]; exact k3, fun j hj => by rw [← he j (by omega)]; exact k4 j hj⟩
theorem put_call {R : River} {reach day : Int} (hr : RivAt h v R) (hf : Fresh h n) (b0 : 0 ≤ reach ∧ reach ≤ 255) (b1 : 0 ≤ day ∧ day ≤ 255) :
    (lim ft (oraOf 10 true)).call (.fn 7 [] []) [v, .int .u8 reach, .int .u8 day] ⟨h, n, fl⟩ = some (.bool true, ⟨h, n, fl⟩) := by
  obtain ⟨sl, rfl, hs⟩ := id hr
  obtain ⟨a, c, e, ck, rfl⟩ := hs.shape (List.length_map _)
  refine pure_call rfl (by rfl) rfl rfl rfl ?_
  have f1 : Fresh (h.put n (some (.cells [.int .i64 R.days, .slc a R.rs.length c e ck] false))) (n + 1) := hf.put (by omega) (by omega)
  have r1 := hr.agree hf (Agree.refl.put (b := n) (o := some (.cells [.int .i64 R.days, .slc a R.rs.length c e ck] false)) (Nat.le_refl n))
  have e9 := fine_call (fl := n) r1 f1
  have e10 := @works_call
  by_cases hv : Valid R
  · by_cases hl8 : (8 : Int) ≤ (R.rs.length : Int)
    · simp -implicitDefEqProofs only [a7, ev0, ev1, ev2, ev3, ev4, ev5, ev6, ev7, evx, if_true, if_false, Nat.reduceEqDiff, Nat.reduceAdd, Nat.reduceMul, Nat.reduceSub, ↓reduceIte, reduceCtorEq, Nat.reduceLeDiff, Nat.reduceLT, Int.reduceLE, Int.reduceLT, Int.reduceEq, Int.reduceNeg, Int.reduceToNat, e9, hv, hl8, e10]
    have hd1 := hv.d1
    have hl1 := hv.l1
    have hd40 := hv.d2
    obtain ⟨D, hd⟩ : ∃ D : Nat, R.days = D := ⟨R.days.toNat, by omega⟩
    have wr1 : wrapF .i64 reach = reach := wrap64 (by omega) (by omega)
    have hl0 : ¬ ((R.rs.length : Int) = 0) := by omega
    obtain ⟨i, hi1, hi⟩ := idx_of (a := reach) b0.1 (show 0 < R.rs.length by omega)
    have f2 := f1.put (b := n + 1) (o := some (.cells [.int .i64 R.days, .slc none 0 0 31 .exact] false)) (n' := n + 2) (by omega) (by omega)
    have a2' : Agree n h ((h.put n (some (.cells [.int .i64 R.days, .slc a R.rs.length c e ck] false))).put (n + 1) (some (.cells [.int .i64 R.days, .slc none 0 0 31 .exact] false))) := (Agree.refl.put (Nat.le_refl n)).put (by omega)
    have hs2 := hs.agree hf a2'
    have hbn : ∀ b, blkOf (.slc a R.rs.length c e ck) = some b → b < n := fun b hb => by
      obtain ⟨a2, c2, e2, ck2, he, hl2⟩ := hs
      have ha : a = a2 := by injection he
      subst ha
      have hx : (R.rs.map Reach.av)[0]? = some (Reach.av R.rs[0]) := by rw [List.getElem?_map, List.getElem?_eq_getElem (by omega)]; rfl
      obtain ⟨b', o', rfl, hld⟩ := hl2 0 _ hx
      cases hb
      exact load_lt hf hld
    simp -implicitDefEqProofs only [a7, ev0, ev1, ev2, ev3, ev4, ev5, ev6, ev7, evx, if_true, if_false, Nat.reduceEqDiff, Nat.reduceAdd, Nat.reduceMul, Nat.reduceSub, ↓reduceIte, reduceCtorEq, Nat.reduceLeDiff, Nat.reduceLT, Int.reduceLE, Int.reduceLT, Int.reduceEq, Int.reduceNeg, Int.reduceToNat, e9, hv, hl8, wr1, hl0, hi1]
    generalize hT : T.put _ 10 _ = T0
    obtain ⟨x, tm2, σ2, el, rfl, h2, m2, Q, rfl, hm2, hf2, ha2, hx2, hg2, t3, t8, t9, t2⟩ := put_L0 (tm := T0) (fl := n) (n := n) (m0 := n + 2) (u2 := .int .u8 day) (i := i) hv hi hs2 f2 (by omega) (Nat.le_refl n) hbn (by rw [hget_ne (by omega), hget_eq]) hget_eq
      (by subst hT; simp -implicitDefEqProofs only [ev0, ev1, ev2, ev3, ev4, ev5, ev6, ev7, evx, if_true, if_false, Nat.reduceEqDiff, Nat.reduceAdd, Nat.reduceMul, Nat.reduceSub, ↓reduceIte, reduceCtorEq, Nat.reduceLeDiff, Nat.reduceLT, Int.reduceLE, Int.reduceLT, Int.reduceEq, Int.reduceNeg, Int.reduceToNat]) (by subst hT; simp -implicitDefEqProofs only [ev0, ev1, ev2, ev3, ev4, ev5, ev6, ev7, evx, if_true, if_false, Nat.reduceEqDiff, Nat.reduceAdd, Nat.reduceMul, Nat.reduceSub, ↓reduceIte, reduceCtorEq, Nat.reduceLeDiff, Nat.reduceLT, Int.reduceLE, Int.reduceLT, Int.reduceEq, Int.reduceNeg, Int.reduceToNat]) (by subst hT; simp -implicitDefEqProofs only [ev0, ev1, ev2, ev3, ev4, ev5, ev6, ev7, evx, if_true, if_false, Nat.reduceEqDiff, Nat.reduceAdd, Nat.reduceMul, Nat.reduceSub, ↓reduceIte, reduceCtorEq, Nat.reduceLeDiff, Nat.reduceLT, Int.reduceLE, Int.reduceLT, Int.reduceEq, Int.reduceNeg, Int.reduceToNat]) (by subst hT; simp -implicitDefEqProofs only [ev0, ev1, ev2, ev3, ev4, ev5, ev6, ev7, evx, if_true, if_false, Nat.reduceEqDiff, Nat.reduceAdd, Nat.reduceMul, Nat.reduceSub, ↓reduceIte, reduceCtorEq, Nat.reduceLeDiff, Nat.reduceLT, Int.reduceLE, Int.reduceLT, Int.reduceEq, Int.reduceNeg, Int.reduceToNat]) (by subst hT; simp -implicitDefEqProofs only [ev0, ev1, ev2, ev3, ev4, ev5, ev6, ev7, evx, if_true, if_false, Nat.reduceEqDiff, Nat.reduceAdd, Nat.reduceMul, Nat.reduceSub, ↓reduceIte, reduceCtorEq, Nat.reduceLeDiff, Nat.reduceLT, Int.reduceLE, Int.reduceLT, Int.reduceEq, Int.reduceNeg, Int.reduceToNat]) (by subst hT; simp -implicitDefEqProofs only [ev0, ev1, ev2, ev3, ev4, ev5, ev6, ev7, evx, if_true, if_false, Nat.reduceEqDiff, Nat.reduceAdd, Nat.reduceMul, Nat.reduceSub, ↓reduceIte, reduceCtorEq, Nat.reduceLeDiff, Nat.reduceLT, Int.reduceLE, Int.reduceLT, Int.reduceEq, Int.reduceNeg, Int.reduceToNat])
    by_cases hs1 : 1000 < logsTo R R.rs.length
    · simp -implicitDefEqProofs only [el, ev0, ev1, ev2, ev3, ev4, ev5, ev6, ev7, evx, if_true, if_false, Nat.reduceEqDiff, Nat.reduceAdd, Nat.reduceMul, Nat.reduceSub, ↓reduceIte, reduceCtorEq, Nat.reduceLeDiff, Nat.reduceLT, Int.reduceLE, Int.reduceLT, Int.reduceEq, Int.reduceNeg, Int.reduceToNat, t8, hs1, e10]
    have hv2 := put_valid hv hi (by omega)
    have aA : Agree n h h2 := a2'.trans (ha2.mono (by omega))
    have rx : RivAt h2 (.agg [.int .i64 R.days, Q]) (R.put i) := ⟨Q, rfl, hg2.riv (by rw [put_len hi]; omega)⟩
    have r2 : RivAt h2 (.agg [.int .i64 R.days, .slc a R.rs.length c e ck]) R := hr.agree hf aA
    have hb0 : h2.get n = some (.cells [.int .i64 R.days, .slc a R.rs.length c e ck] false) := by rw [ha2 n (by omega), hget_ne (by omega), hget_eq]
    have e11 := day_call (n := m2) (fl := n) (k := .u8) (d := day) r2 hv b1.1 b1.2
    obtain ⟨d, hdd, hdl, hdu⟩ := day_of hv hd b1.1
    rw [hdd] at e11
    have e13 := most_call (fl := n) hd hv r2 hf2 hdl hdu
    have e14 := most_call (fl := n) (d := d) (D := D) (R := R.put i) (by exact hd) hv2 rx hf2 hdl hdu
    have hbp : ∀ d, d ≤ D → bom (R.put i) d = bom R d := fun d hdd => bom_put hv hd hi (by omega) hdd
    rw [hbp d hdu] at e14
    have bl := bom_le hv d
    obtain ⟨ra, e17, u1⟩ := by_call (fl := n) (logs := bom R d) hd hv r2 hf2 bl.1
    obtain ⟨rb, e18, u2⟩ := by_call (fl := n) (logs := bom R d) (D := D) (R := R.put i) (by exact hd) hv2 rx hf2 bl.1
    have hab : ra = rb := FirstOf.uniq u1 (u2.congrN fun j hj => by rw [hbp (j + 1) (by omega)])
    subst hab
    have cr : ¬ ra < 0 := by
      rcases u1 with ⟨_, k1⟩ | ⟨k, _, rfl, _⟩
      · have := k1 (d - 1) (by omega)
        dsimp only at this
        rw [show d - 1 + 1 = d by omega] at this
        simp at this
      · omega
    rw [byV, if_neg cr] at e17 e18
    simp -implicitDefEqProofs only [el, ev0, ev1, ev2, ev3, ev4, ev5, ev6, ev7, evx, if_true, if_false, Nat.reduceEqDiff, Nat.reduceAdd, Nat.reduceMul, Nat.reduceSub, ↓reduceIte, reduceCtorEq, Nat.reduceLeDiff, Nat.reduceLT, Int.reduceLE, Int.reduceLT, Int.reduceEq, Int.reduceNeg, Int.reduceToNat, t2, t3, t8, t9, hs1, hb0, hx2, e11, e13, e14, e17, e18, e10]
  · simp -implicitDefEqProofs only [a7, ev0, ev1, ev2, ev3, ev4, ev5, ev6, ev7, evx, if_true, if_false, Nat.reduceEqDiff, Nat.reduceAdd, Nat.reduceMul, Nat.reduceSub, ↓reduceIte, reduceCtorEq, Nat.reduceLeDiff, Nat.reduceLT, Int.reduceLE, Int.reduceLT, Int.reduceEq, Int.reduceNeg, Int.reduceToNat, e9, hv, e10]
end
end Go.AM
