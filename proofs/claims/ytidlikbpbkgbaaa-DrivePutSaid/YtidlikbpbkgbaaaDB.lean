/- A day of a year: reach by reach. -/
import Derived.Test.YtidlikbpbkgbaaaDA
set_option linter.all false
set_option linter.unusedVariables false
set_option linter.unusedSimpArgs false
set_option linter.unusedSectionVars false
namespace Go.AM
open Go
noncomputable section
variable {tm tm' : T AV} {σ σ' : AS} {h h' : T AObj} {n n' fl : Nat} {v : AV} {sl P C B : AV} {g : List Int}

theorem ne_new' {b n : Nat} (hb : b < n) : (n = b) = False := by simp; omega
theorem ne_newk' {b n : Nat} (hb : b < n) (k : Nat) : (n + k = b) = False := by simp; omega
theorem ne_f {a b : Nat} (e : a ≠ b) : (a = b) = False := by simp [e]
theorem SlV.keep {k : Nat} {s : Sz} {xs : List AV} (hs : SlV h k s v xs) (hk : ∀ b, blkOf v = some b → h'.get b = h.get b) : SlV h' k s v xs := by
  obtain ⟨a, c, e, ck, rfl, hl⟩ := hs
  refine ⟨a, c, e, ck, rfl, fun i x hx => ?_⟩
  obtain ⟨b, o, rfl, hld⟩ := hl i x hx
  refine ⟨b, o, rfl, fun n fl => ?_⟩
  rw [← hld n fl]
  cases s <;> simp only [ld1, ldN, hk b rfl]

/-- The eight counts of a day, reach i being next. -/
def gL (R : River) (t i : Nat) : List Int := (List.range 8).map fun k => if k < R.rs.length then (if k < i then ent R k t else ent R k (t - 1)) else 0
def nL (R : River) (t i : Nat) : List Int := (List.range 8).map fun k => if k < R.rs.length then (if k < i then com R k t else com R k (t - 1)) else 0
theorem gL_len (R : River) (t i : Nat) : (gL R t i).length = 8 := by simp [gL]
theorem nL_len (R : River) (t i : Nat) : (nL R t i).length = 8 := by simp [nL]
theorem gL_get {R : River} {t i : Nat} (hi : i < R.rs.length) (h8 : i < 8) : (gL R t i)[i]? = some (ent R i (t - 1)) := by
  unfold gL; rw [List.getElem?_map, List.getElem?_range h8]; simp [hi]
theorem nL_get {R : River} {t i : Nat} (hi : i < R.rs.length) (h8 : i < 8) : (nL R t i)[i]? = some (com R i (t - 1)) := by
  unfold nL; rw [List.getElem?_map, List.getElem?_range h8]; simp [hi]
theorem nL_get1 {R : River} {t i : Nat} (hi : i < R.rs.length) (h8 : i < 8) : (nL R t (i + 1))[i]? = some (com R i t) := by
  unfold nL; rw [List.getElem?_map, List.getElem?_range h8]; simp [hi]
theorem gL_set {R : River} {t i : Nat} (hi : i < R.rs.length) : (gL R t i).set i (ent R i t) = gL R t (i + 1) := by
  apply List.ext_getElem?
  intro k
  rw [List.getElem?_set]
  unfold gL
  rw [List.length_map, List.length_range, List.getElem?_map, List.getElem?_map]
  by_cases c : i = k
  · subst c
    by_cases c2 : i < 8
    · simp [c2, hi]
    · simp [c2]
  · by_cases c2 : k < 8
    · simp only [c, if_false, List.getElem?_range c2, Option.map_some]
      by_cases c3 : k < i
      · simp [c3, show k < i + 1 by omega]
      · simp [c3, show ¬ k < i + 1 by omega]
    · simp [c, c2]
theorem nL_set {R : River} {t i : Nat} (hi : i < R.rs.length) : (nL R t i).set i (com R i t) = nL R t (i + 1) := by
  apply List.ext_getElem?
  intro k
  rw [List.getElem?_set]
  unfold nL
  rw [List.length_map, List.length_range, List.getElem?_map, List.getElem?_map]
  by_cases c : i = k
  · subst c
    by_cases c2 : i < 8
    · simp [c2, hi]
    · simp [c2]
  · by_cases c2 : k < 8
    · simp only [c, if_false, List.getElem?_range c2, Option.map_some]
      by_cases c3 : k < i
      · simp [c3, show k < i + 1 by omega]
      · simp [c3, show ¬ k < i + 1 by omega]
    · simp [c, c2]
theorem gL_same {R : River} {t i : Nat} (he : ent R i t = ent R i (t - 1)) : gL R t (i + 1) = gL R t i := by
  unfold gL
  refine List.map_congr_left fun k _ => ?_
  by_cases c : k = i
  · subst c; simp [he]
  · by_cases c3 : k < i
    · simp [c3, show k < i + 1 by omega]
    · simp [c3, show ¬ k < i + 1 by omega]
/-- What still counts on day t, reach i being next. -/
def Rel2 (t i : Nat) (j : Int) (d : Nat) : Prop := t < d ∨ (d = t ∧ ((i : Int) ≤ j ∨ j = -1))

/-- The places of a day. -/
structure Places (R : River) (D nY fl y bm nb pb m1 : Nat) (rb : Nat → Nat) : Prop where
  yl : nY ≤ y
  bl : nY ≤ bm
  nl : nY ≤ nb
  rl : ∀ i, i < R.rs.length → nY ≤ rb i
  fl : fl ≤ nY
  ym : y < m1
  bmm : bm < m1
  nm : nb < m1
  pm : pb < m1
  rm : ∀ i, i < R.rs.length → rb i < m1
  yb : y ≠ bm
  yn : y ≠ nb
  yp : y ≠ pb
  bn : bm ≠ nb
  bp : bm ≠ pb
  np : nb ≠ pb
  ry : ∀ i, i < R.rs.length → rb i ≠ y
  rbm : ∀ i, i < R.rs.length → rb i ≠ bm
  rn : ∀ i, i < R.rs.length → rb i ≠ nb
  rp : ∀ i, i < R.rs.length → rb i ≠ pb
/-- What holds ahead of reach i on day t. -/
structure DayInv (R : River) (D t i y bm nb : Nat) (rb : Nat → Nat) (sl P C B : AV) (m1 : Nat) (h h' : T AObj) (m' : Nat) : Prop where
  le : m1 ≤ m'
  fresh : Fresh h' m'
  frame : ∀ b, b < m1 → b ≠ y → b ≠ bm → b ≠ nb → (∀ k, k < R.rs.length → b ≠ rb k) → h'.get b = h.get b
  year : h'.get y = some (.cells (yearCells R.days sl P C B (gL R t i)) false)
  now : h'.get nb = some (.cells (ints (nL R t i)) false)
  map : ∃ m cl, h'.get bm = some (mobj m cl) ∧ MOK m cl ∧ ∀ j d, Rel2 t i j d → mget m j d = cmf R t i j d
  rows : ∀ k, k < R.rs.length → ∃ l, h'.get (rb k) = some (.cells l false) ∧ l.length = D ∧ l.all AV.scalar = true

theorem run_L1 {R : River} {D t nY y bm nb pb m1 : Nat} {rb : Nat → Nat} {ck : CK} (hv : Valid R) (hd : R.days = (D : Int)) (ht : 1 ≤ t) (htD : t ≤ D) (hp : Places R D nY fl y bm nb pb m1 rb)
    (hs : SlV h 8 (some 8) sl (R.rs.map Reach.av)) (hsb : ∀ b, blkOf sl = some b → b < nY) (hP : P = .slc (some (pb, 0)) R.rs.length R.rs.length 40 ck)
    (hpb : h.get pb = some (.cells ((List.range R.rs.length).map fun i => .slc (some (rb i, 0)) D D 2 .exact) false))
    (hinv : DayInv R D t 0 y bm nb rb sl P C B m1 h h m1)
    (h0 : tm.get 0 = some (.ptr (some (y, 0)))) (h1 : tm.get 1 = some (.fn 52 [.ptr (some (y, 0))] [])) (h5 : tm.get 5 = some (.map (some bm))) (h8 : tm.get 8 = some (.int .i64 (t : Int))) (h9 : tm.get 9 = some (.ptr (some (nb, 0))))
    (h64 : tm.get 64 = some sl) (h65 : tm.get 65 = some (.int .i64 R.rs.length)) (h66 : tm.get 66 = some (.int .i64 0)) :
    Done ((lim ft (oraOf 10 true)).exec (.loop a47_L1) tm ⟨h, m1, fl⟩) fun x tm' σ' => x = .exit 4 ∧ tm'.get 0 = some (.ptr (some (y, 0))) ∧ tm'.get 1 = some (.fn 52 [.ptr (some (y, 0))] []) ∧ tm'.get 5 = some (.map (some bm)) ∧ tm'.get 8 = some (.int .i64 (t : Int)) ∧
      tm'.get 9 = some (.ptr (some (nb, 0))) ∧ ∃ h' m', σ' = ⟨h', m', fl⟩ ∧ DayInv R D t R.rs.length y bm nb rb sl P C B m1 h h' m' := by
  refine loop_up (fun i tm σ => tm.get 0 = some (.ptr (some (y, 0))) ∧ tm.get 1 = some (.fn 52 [.ptr (some (y, 0))] []) ∧ tm.get 5 = some (.map (some bm)) ∧ tm.get 8 = some (.int .i64 (t : Int)) ∧ tm.get 9 = some (.ptr (some (nb, 0))) ∧
      tm.get 64 = some sl ∧ tm.get 65 = some (.int .i64 R.rs.length) ∧ tm.get 66 = some (.int .i64 (i : Int)) ∧ ∃ h' m', σ = ⟨h', m', fl⟩ ∧ DayInv R D t i y bm nb rb sl P C B m1 h h' m') _ R.rs.length ?_ ?_
    R.rs.length 0 tm _ (by simp) ⟨h0, h1, h5, h8, h9, h64, h65, h66, h, m1, rfl, hinv⟩
  · intro i tm σ hi ⟨h0, h1, h5, h8, h9, h64, h65, h66, h', m', hσ, hin⟩ S hI hQ
    subst hσ
    subst hP
    obtain ⟨m, cl, hb', hm, hg⟩ := hin.map
    obtain ⟨l, hl1, hl2, hl3⟩ := hin.rows i hi
    have hd2 := hv.d2
    have hl8 := hv.l2
    have hi8 : i < 8 := by omega
    have ok := hv.ok hi
    have hle := hin.le
    have hym := hp.ym
    have hbmm := hp.bmm
    have hnm := hp.nm
    have hrm := hp.rm i hi
    have hpm := hp.pm
    have hfl := hp.fl
    have hyl := hp.yl
    have hbl := hp.bl
    have hnl := hp.nl
    have hrl := hp.rl i hi
    have fy : fl ≤ y := by omega
    have fb : fl ≤ bm := by omega
    have fn : fl ≤ nb := by omega
    have fr : fl ≤ rb i := by omega
    have fm0 : fl ≤ m' := by omega
    have fm1 : fl ≤ m' + 1 := by omega
    have fm2 : fl ≤ m' + 2 := by omega
    -- numbers apart
    have n1 := ne_new (show y < m' by omega)
    have n2 := ne_newk (show y < m' by omega)
    have n3 := ne_new' (show y < m' by omega)
    have n4 := ne_newk' (show y < m' by omega)
    have n5 := ne_new (show bm < m' by omega)
    have n6 := ne_newk (show bm < m' by omega)
    have n7 := ne_new' (show bm < m' by omega)
    have n8 := ne_newk' (show bm < m' by omega)
    have n9 := ne_new (show nb < m' by omega)
    have n10 := ne_newk (show nb < m' by omega)
    have n11 := ne_new' (show nb < m' by omega)
    have n12 := ne_newk' (show nb < m' by omega)
    have n13 := ne_new (show rb i < m' by omega)
    have n14 := ne_newk (show rb i < m' by omega)
    have n15 := ne_new' (show rb i < m' by omega)
    have n16 := ne_newk' (show rb i < m' by omega)
    have p1 := ne_f hp.yb
    have p2 := ne_f hp.yb.symm
    have p3 := ne_f hp.yn
    have p4 := ne_f hp.yn.symm
    have p5 := ne_f hp.bn
    have p6 := ne_f hp.bn.symm
    have p7 := ne_f (hp.ry i hi)
    have p8 := ne_f (hp.ry i hi).symm
    have p9 := ne_f (hp.rbm i hi)
    have p10 := ne_f (hp.rbm i hi).symm
    have p11 := ne_f (hp.rn i hi)
    have p12 := ne_f (hp.rn i hi).symm
    -- the reach
    have hs' : SlV h' 8 (some 8) sl (R.rs.map Reach.av) := hs.keep fun b hb => by
      have := hsb b hb
      exact hin.frame b (by omega) (by omega) (by omega) (by omega) (fun k hk => by have := hp.rl k hk; omega)
    have hx : (R.rs.map Reach.av)[i]? = some (Reach.av (R.at i)) := by rw [List.getElem?_map, List.getElem?_eq_getElem hi, at_of (List.getElem?_eq_getElem hi)]; rfl
    obtain ⟨sb, o, c, e, ck2, rfl, hb2, hkk, _⟩ := hs'.many hin.fresh hx (List.length_map _)
    have hb2n := ne_new hb2
    have hb2nk := ne_newk hb2
    have hlt : ((i : Int) < (R.rs.length : Int)) := by omega
    have hw : wrapF .i64 ((i : Int) + 1) = ((i + 1 : Nat) : Int) := by rw [wrap64 (by omega) (by omega)]; omega
    have hwt : wrapF .i64 ((t : Int) - 1) = ((t - 1 : Nat) : Int) := by rw [wrap64 (by omega) (by omega)]; omega
    have ht1 : t - 1 < D := by omega
    -- what has come
    have hnow := ints_i (nL_get (t := t) hi hi8)
    have hnow1 := ints_i (nL_get1 (t := t) hi hi8)
    have hcm : mget m (i : Int) (t : Int) = cmf R t i i t := hg _ _ (.inr ⟨rfl, .inl (Int.le_refl _)⟩)
    have hcn := cm_now hv hi ht
    have b1 := com_le hv hi t
    have b2 := (ent_facts hv.nonneg i t).1
    have b3 := (ent_facts hv.nonneg i (t - 1)).1
    have b4 := (ent_facts hv.nonneg i t).2.2.1
    have b5 := (ent_facts hv.nonneg i (t - 1)).2.2
    rw [show t - 1 + 1 = t by omega] at b5
    have hw1 : wrapF .i64 (com R i (t - 1) + cmf R t i i t) = com R i t := by rw [hcn]; exact wrap64 (by omega) (by omega)
    have hset : wr (ints (nL R t i)) i [.int .i64 (com R i t)] = ints (nL R t (i + 1)) := by rw [wr_ints (by rw [nL_len]; exact hi8), nL_set hi]
    have hnlen : (ints (nL R t i)).length = 8 := by rw [ints_len, nL_len]
    have hi18 : i + 1 ≤ 8 := by omega
    have hil : i + 1 ≤ (nL R t i).length := by rw [nL_len]; exact hi18
    -- the key is struck
    have hHb : (((h'.put m' (some (.cells (Reach.cl (R.at i)) false))).put (m' + 1) (some (.cells [.int .i64 (i : Int), .int .i64 (t : Int)] false))).put nb (some (.cells (ints (nL R t (i + 1))) false))).get bm = some (mobj m cl) := by
      rw [hget_ne hp.bn, hget_ne (by omega), hget_ne (by omega)]; exact hb'
    obtain ⟨h2, d1, d2, d3⟩ := deF_del (a := (i : Int)) (b := (t : Int)) (n := m' + 2) hHb fb
    simp only [Reach.cl] at d1 d3
    have q0 : h2.get m' = some (.cells (Reach.cl (R.at i)) false) := by rw [d3 _ (by omega), hget_ne (by omega), hget_ne (by omega), hget_eq]; rfl
    have q1 : h2.get (m' + 1) = some (.cells [.int .i64 (i : Int), .int .i64 (t : Int)] false) := by rw [d3 _ (by omega), hget_ne (by omega), hget_eq]
    have q2 : h2.get nb = some (.cells (ints (nL R t (i + 1))) false) := by rw [d3 _ hp.bn.symm, hget_eq]
    have q3 : h2.get y = some (.cells (yearCells R.days (.slc (some (sb, o)) R.rs.length c e ck2) (.slc (some (pb, 0)) R.rs.length R.rs.length 40 ck) C B (gL R t i)) false) := by rw [d3 _ hp.yb, hget_ne hp.yn, hget_ne (by omega), hget_ne (by omega)]; exact hin.year
    have qo : ∀ b, b < m' → b ≠ bm → b ≠ nb → h2.get b = h'.get b := fun b hb e1 e2 => by rw [d3 _ e1, hget_ne e2, hget_ne (by omega), hget_ne (by omega)]
    have q4 : h2.get pb = some (.cells ((List.range R.rs.length).map fun i => .slc (some (rb i, 0)) D D 2 .exact) false) := by
      rw [qo _ (by omega) hp.bp.symm hp.np.symm, hin.frame _ hpm hp.yp.symm hp.bp.symm hp.np.symm (fun k hk => (hp.rp k hk).symm)]; exact hpb
    have q5 : h2.get (rb i) = some (.cells l false) := by rw [qo _ (by omega) (hp.rbm i hi) (hp.rn i hi)]; exact hl1
    have hrow : ((List.range R.rs.length).map fun i => AV.slc (some (rb i, 0)) D D 2 .exact)[i]? = some (.slc (some (rb i, 0)) D D 2 .exact) := by rw [List.getElem?_map, List.getElem?_range hi]; rfl
    have hf2 : Fresh h2 (m' + 2) := fun b c hc => by
      by_cases e : b = bm
      · omega
      · rw [d3 _ e] at hc
        exact (((hin.fresh.put (n' := m' + 1) (by omega) (by omega)).put (n' := m' + 2) (by omega) (by omega)).put (n' := m' + 2) (b := nb) (by omega) (by omega)) b c hc
    have hm2 := mdel_ok (a := (i : Int)) (b := (t : Int)) hm
    have hg2 : ∀ j d, Rel2 t (i + 1) j d → mget (mdel m i t) j d = cmf R t i j d := fun j d hr => by
      rw [mget_del hm, if_neg (by rintro ⟨e1, e2⟩; rcases hr with hr | ⟨_, hr | hr⟩ <;> omega)]
      refine hg j d ?_
      rcases hr with hr | ⟨hr, hr2 | hr2⟩
      · exact .inl hr
      · exact .inr ⟨hr, .inl (by omega)⟩
      · exact .inr ⟨hr, .inr hr2⟩
    have hop := fun (h : T AObj) (n fl : Nat) => isOpen_call (h := h) (n := n) (fl := fl) (x := R.at i) (day := (t : Int)) ok.e1 ok.e2 (by have := ok.w1; omega) (by have := ok.w2; omega)
    simp only [Reach.av] at hop
    have hes := ent_step R i ht
    by_cases q : isOpen (R.at i) (t : Int) = true
    · rw [if_pos q] at hes
      have hdn := hv.dn hi
      have tk0 := ok.t1
      have tk1 := ok.t2
      have ps0 := ok.p1
      have ps1 := ok.p2
      have hw2 : wrapF .i64 (com R i t - ent R i (t - 1)) = com R i t - ent R i (t - 1) := wrap64 (by omega) (by omega)
      have hs2 : SlV h2 8 (some 8) (.slc (some (sb, o)) R.rs.length c e ck2) (R.rs.map Reach.av) := hs'.keep fun b hb => by
        have := hsb b hb
        exact qo b (by omega) (by omega) (by omega)
      have hmay := may_call (n := m' + 2) (fl := fl) (day := (t : Int)) (a := com R i t - ent R i (t - 1)) hi hs2 hf2 q3
      have qn : ¬ com R i t - ent R i (t - 1) < min (R.at i).pass (com R i t - ent R i (t - 1)) := by omega
      have hgone := ints_i (gL_get (t := t) hi hi8)
      have ht2 : t - 1 + 1 ≤ D := by omega
      have hw3 : wrapF .i64 (ent R i (t - 1) + min (R.at i).pass (com R i t - ent R i (t - 1))) = ent R i t := by rw [← hes]; exact wrap64 (by omega) (by omega)
      have hyl2 : (yearCells R.days (.slc (some (sb, o)) R.rs.length c e ck2) (.slc (some (pb, 0)) R.rs.length R.rs.length 40 ck) C B (gL R t i)).length = 13 := by rw [yc_len, gL_len]
      have h5i : 5 + (i + 1) ≤ 13 := by omega
      have hset2 : wr (yearCells R.days (.slc (some (sb, o)) R.rs.length c e ck2) (.slc (some (pb, 0)) R.rs.length R.rs.length 40 ck) C B (gL R t i)) (5 + i) [.int .i64 (ent R i t)] = yearCells R.days (.slc (some (sb, o)) R.rs.length c e ck2) (.slc (some (pb, 0)) R.rs.length R.rs.length 40 ck) C B (gL R t (i + 1)) := by
        rw [ywg (by rw [gL_len]; exact hi8), gL_set hi]
      have hw4 : wrapF .i64 ((t : Int) + (R.at i).takes) = (t : Int) + (R.at i).takes := wrap64 (by omega) (by omega)
      have hdi : ((R.at i).down = (i : Int)) = False := by
        simp only [eq_iff_iff, iff_false]
        rcases hdn with hdn | ⟨hdn, _⟩ <;> omega
      obtain ⟨dt, hdt⟩ : ∃ dt : Nat, (t : Int) + (R.at i).takes = dt := ⟨t + (R.at i).takes.toNat, by omega⟩
      have hrel : Rel2 t (i + 1) (R.at i).down dt := by
        rcases Nat.lt_or_ge t dt with h | h
        · exact .inl h
        · refine .inr ⟨by omega, ?_⟩
          rcases hdn with hdn | ⟨hdn, _⟩
          · exact .inr hdn
          · exact .inl (by omega)
      have hlk : mget (mdel m i t) (R.at i).down ((t : Int) + (R.at i).takes) = cmf R t i (R.at i).down dt := by rw [hdt]; exact hg2 _ _ hrel
      have hcl := cm_le hv t i (R.at i).down dt
      have hw5 : wrapF .i64 (cmf R t i (R.at i).down dt + min (R.at i).pass (com R i t - ent R i (t - 1))) = cmf R t i (R.at i).down dt + min (R.at i).pass (com R i t - ent R i (t - 1)) := wrap64 (by omega) (by omega)
      have hre := (mins_ok (a := (R.at i).down) (b := (t : Int) + (R.at i).takes) hm2).2.2 (R.at i).down ((t : Int) + (R.at i).takes)
      rw [hlk] at hre
      have hes2 := fun (h : T AObj) (n : Nat) (v : Int) => esF_put (h := h) (n := n) (fl := fl) (r := bm) (a := (R.at i).down) (b := (t : Int) + (R.at i).takes) (v := v) hm2 fb
      simp -implicitDefEqProofs only [a47_L1, ev0, ev1, ev2, ev3, ev4, ev5, ev6, ev7, evx, if_true, if_false, Nat.reduceEqDiff, Nat.reduceAdd, Nat.reduceMul, Nat.reduceSub, ↓reduceIte, reduceCtorEq, Nat.reduceLeDiff, Nat.reduceLT, Int.reduceLE, Int.reduceLT, Int.reduceEq, Int.reduceNeg, Int.reduceToNat, h0, h1, h5, h8, h9, h64, h65, h66, hlt, hi, hb2n, hb2nk, hkk, hin.year, hin.now, hb', n1, n2, n3, n4, n5, n6, n7, n8, n9, n10, n11, n12, n13, n14, n15, n16, p1, p2, p3, p4, p5, p6, p7, p8, p9, p10, p11, p12, fm0, fm1, fm2, fn, fb, fr, fy, hi8, hi18, hil, hnow, hnow1, hcm, hw1, hset, hnlen, d1, q0, q1, q2, q3, q4, q5, Reach.cl, hop, q, hw, hw2, hmay, qn, yc2, ycg, hgone, hrow, hwt, ht1, ht2, hl2, hw3, hyl2, h5i, hset2, hw4, hdi, hlk, hw5, hre, hes2, d2]
      refine hI _ _ ⟨by simp -implicitDefEqProofs only [ev0, ev1, ev2, ev3, ev4, ev5, ev6, ev7, evx, if_true, if_false, Nat.reduceEqDiff, Nat.reduceAdd, Nat.reduceMul, Nat.reduceSub, ↓reduceIte, reduceCtorEq, Nat.reduceLeDiff, Nat.reduceLT, Int.reduceLE, Int.reduceLT, Int.reduceEq, Int.reduceNeg, Int.reduceToNat, h0], by simp -implicitDefEqProofs only [ev0, ev1, ev2, ev3, ev4, ev5, ev6, ev7, evx, if_true, if_false, Nat.reduceEqDiff, Nat.reduceAdd, Nat.reduceMul, Nat.reduceSub, ↓reduceIte, reduceCtorEq, Nat.reduceLeDiff, Nat.reduceLT, Int.reduceLE, Int.reduceLT, Int.reduceEq, Int.reduceNeg, Int.reduceToNat, h1], by simp -implicitDefEqProofs only [ev0, ev1, ev2, ev3, ev4, ev5, ev6, ev7, evx, if_true, if_false, Nat.reduceEqDiff, Nat.reduceAdd, Nat.reduceMul, Nat.reduceSub, ↓reduceIte, reduceCtorEq, Nat.reduceLeDiff, Nat.reduceLT, Int.reduceLE, Int.reduceLT, Int.reduceEq, Int.reduceNeg, Int.reduceToNat, h5], by simp -implicitDefEqProofs only [ev0, ev1, ev2, ev3, ev4, ev5, ev6, ev7, evx, if_true, if_false, Nat.reduceEqDiff, Nat.reduceAdd, Nat.reduceMul, Nat.reduceSub, ↓reduceIte, reduceCtorEq, Nat.reduceLeDiff, Nat.reduceLT, Int.reduceLE, Int.reduceLT, Int.reduceEq, Int.reduceNeg, Int.reduceToNat, h8], by simp -implicitDefEqProofs only [ev0, ev1, ev2, ev3, ev4, ev5, ev6, ev7, evx, if_true, if_false, Nat.reduceEqDiff, Nat.reduceAdd, Nat.reduceMul, Nat.reduceSub, ↓reduceIte, reduceCtorEq, Nat.reduceLeDiff, Nat.reduceLT, Int.reduceLE, Int.reduceLT, Int.reduceEq, Int.reduceNeg, Int.reduceToNat, h9], by simp -implicitDefEqProofs only [ev0, ev1, ev2, ev3, ev4, ev5, ev6, ev7, evx, if_true, if_false, Nat.reduceEqDiff, Nat.reduceAdd, Nat.reduceMul, Nat.reduceSub, ↓reduceIte, reduceCtorEq, Nat.reduceLeDiff, Nat.reduceLT, Int.reduceLE, Int.reduceLT, Int.reduceEq, Int.reduceNeg, Int.reduceToNat, h64], by simp -implicitDefEqProofs only [ev0, ev1, ev2, ev3, ev4, ev5, ev6, ev7, evx, if_true, if_false, Nat.reduceEqDiff, Nat.reduceAdd, Nat.reduceMul, Nat.reduceSub, ↓reduceIte, reduceCtorEq, Nat.reduceLeDiff, Nat.reduceLT, Int.reduceLE, Int.reduceLT, Int.reduceEq, Int.reduceNeg, Int.reduceToNat, h65], by simp -implicitDefEqProofs only [ev0, ev1, ev2, ev3, ev4, ev5, ev6, ev7, evx, if_true, if_false, Nat.reduceEqDiff, Nat.reduceAdd, Nat.reduceMul, Nat.reduceSub, ↓reduceIte, reduceCtorEq, Nat.reduceLeDiff, Nat.reduceLT, Int.reduceLE, Int.reduceLT, Int.reduceEq, Int.reduceNeg, Int.reduceToNat], _, m' + 3, rfl, ⟨by omega, ?_, fun b c1 c2 c3 c4 c5 => ?_, ?_, ?_, ⟨mput (mdel m i t) (R.at i).down ((t : Int) + (R.at i).takes) _ cl, _, hget_eq, mput_ok hm2, fun j d hr => ?_⟩, fun k hk => ?_⟩⟩
      · exact (((hf2.put (b := rb i) (n' := m' + 2) (by omega) (by omega)).put (b := y) (n' := m' + 2) (by omega) (by omega)).put (n' := m' + 3) (by omega) (by omega)).put (by omega) (by omega)
      · have := c5 i hi
        rw [hget_ne c3, hget_ne (by omega), hget_ne c2, hget_ne this, qo _ (by omega) c3 c4]
        exact hin.frame b c1 c2 c3 c4 c5
      · rw [hget_ne hp.yb, hget_ne (by omega), hget_eq]
      · rw [hget_ne hp.bn.symm, hget_ne (by omega), hget_ne hp.yn.symm, hget_ne (hp.rn i hi).symm]
        exact q2
      · rw [mget_put hm2, cm_step hi tk0, hes]
        by_cases c : j = (R.at i).down ∧ (d : Int) = (t : Int) + (R.at i).takes
        · rw [if_pos c, if_pos ⟨c.1.symm, c.2⟩]
          have : d = dt := by omega
          rw [c.1, this]; omega
        · rw [if_neg c, if_neg (fun hh => c ⟨hh.1.symm, hh.2⟩), hg2 j d hr]; omega
      · by_cases c : rb k = rb i
        · refine ⟨wr l (t - 1) [.int .i64 (min (R.at i).pass (com R i t - ent R i (t - 1)))], ?_, by rw [wr_len (by simp; omega)]; exact hl2, wr_all hl3 rfl (by omega)⟩
          rw [hget_ne (hp.rbm k hk), hget_ne (by have := hp.rm k hk; omega), hget_ne (hp.ry k hk), c, hget_eq]
        · rw [hget_ne (hp.rbm k hk), hget_ne (by have := hp.rm k hk; omega), hget_ne (hp.ry k hk), hget_ne c, qo _ (by have := hp.rm k hk; omega) (hp.rbm k hk) (hp.rn k hk)]
          exact hin.rows k hk
    · rw [if_neg q] at hes
      replace q : isOpen (R.at i) (t : Int) = false := by simpa using q
      simp -implicitDefEqProofs only [a47_L1, ev0, ev1, ev2, ev3, ev4, ev5, ev6, ev7, evx, if_true, if_false, Nat.reduceEqDiff, Nat.reduceAdd, Nat.reduceMul, Nat.reduceSub, ↓reduceIte, reduceCtorEq, Nat.reduceLeDiff, Nat.reduceLT, Int.reduceLE, Int.reduceLT, Int.reduceEq, Int.reduceNeg, Int.reduceToNat, h0, h1, h5, h8, h9, h64, h65, h66, hlt, hi, hb2n, hb2nk, hkk, hin.year, hin.now, hb', n1, n2, n3, n4, n5, n6, n7, n8, n9, n10, n11, n12, n13, n14, n15, n16, p1, p2, p3, p4, p5, p6, p7, p8, p9, p10, p11, p12, fm0, fm1, fn, fb, hi8, hi18, hil, hnow, hcm, hw1, hset, hnlen, d1, q0, q1, q2, q3, Reach.cl, hop, q, hw]
      refine hI _ _ ⟨by simp -implicitDefEqProofs only [ev0, ev1, ev2, ev3, ev4, ev5, ev6, ev7, evx, if_true, if_false, Nat.reduceEqDiff, Nat.reduceAdd, Nat.reduceMul, Nat.reduceSub, ↓reduceIte, reduceCtorEq, Nat.reduceLeDiff, Nat.reduceLT, Int.reduceLE, Int.reduceLT, Int.reduceEq, Int.reduceNeg, Int.reduceToNat, h0], by simp -implicitDefEqProofs only [ev0, ev1, ev2, ev3, ev4, ev5, ev6, ev7, evx, if_true, if_false, Nat.reduceEqDiff, Nat.reduceAdd, Nat.reduceMul, Nat.reduceSub, ↓reduceIte, reduceCtorEq, Nat.reduceLeDiff, Nat.reduceLT, Int.reduceLE, Int.reduceLT, Int.reduceEq, Int.reduceNeg, Int.reduceToNat, h1], by simp -implicitDefEqProofs only [ev0, ev1, ev2, ev3, ev4, ev5, ev6, ev7, evx, if_true, if_false, Nat.reduceEqDiff, Nat.reduceAdd, Nat.reduceMul, Nat.reduceSub, ↓reduceIte, reduceCtorEq, Nat.reduceLeDiff, Nat.reduceLT, Int.reduceLE, Int.reduceLT, Int.reduceEq, Int.reduceNeg, Int.reduceToNat, h5], by simp -implicitDefEqProofs only [ev0, ev1, ev2, ev3, ev4, ev5, ev6, ev7, evx, if_true, if_false, Nat.reduceEqDiff, Nat.reduceAdd, Nat.reduceMul, Nat.reduceSub, ↓reduceIte, reduceCtorEq, Nat.reduceLeDiff, Nat.reduceLT, Int.reduceLE, Int.reduceLT, Int.reduceEq, Int.reduceNeg, Int.reduceToNat, h8], by simp -implicitDefEqProofs only [ev0, ev1, ev2, ev3, ev4, ev5, ev6, ev7, evx, if_true, if_false, Nat.reduceEqDiff, Nat.reduceAdd, Nat.reduceMul, Nat.reduceSub, ↓reduceIte, reduceCtorEq, Nat.reduceLeDiff, Nat.reduceLT, Int.reduceLE, Int.reduceLT, Int.reduceEq, Int.reduceNeg, Int.reduceToNat, h9], by simp -implicitDefEqProofs only [ev0, ev1, ev2, ev3, ev4, ev5, ev6, ev7, evx, if_true, if_false, Nat.reduceEqDiff, Nat.reduceAdd, Nat.reduceMul, Nat.reduceSub, ↓reduceIte, reduceCtorEq, Nat.reduceLeDiff, Nat.reduceLT, Int.reduceLE, Int.reduceLT, Int.reduceEq, Int.reduceNeg, Int.reduceToNat, h64], by simp -implicitDefEqProofs only [ev0, ev1, ev2, ev3, ev4, ev5, ev6, ev7, evx, if_true, if_false, Nat.reduceEqDiff, Nat.reduceAdd, Nat.reduceMul, Nat.reduceSub, ↓reduceIte, reduceCtorEq, Nat.reduceLeDiff, Nat.reduceLT, Int.reduceLE, Int.reduceLT, Int.reduceEq, Int.reduceNeg, Int.reduceToNat, h65], by simp -implicitDefEqProofs only [ev0, ev1, ev2, ev3, ev4, ev5, ev6, ev7, evx, if_true, if_false, Nat.reduceEqDiff, Nat.reduceAdd, Nat.reduceMul, Nat.reduceSub, ↓reduceIte, reduceCtorEq, Nat.reduceLeDiff, Nat.reduceLT, Int.reduceLE, Int.reduceLT, Int.reduceEq, Int.reduceNeg, Int.reduceToNat], h2, m' + 2, rfl, ⟨by omega, hf2, fun b c1 c2 c3 c4 c5 => ?_, ?_, q2, ⟨_, cl, d2, hm2, fun j d hr => ?_⟩, fun k hk => ?_⟩⟩
      · rw [qo _ (by omega) c3 c4]; exact hin.frame b c1 c2 c3 c4 c5
      · rw [gL_same hes]; exact q3
      · rw [hg2 j d hr, cm_step hi ok.t1, hes]; simp
      · rw [qo _ (by have := hp.rm k hk; omega) (hp.rbm k hk) (hp.rn k hk)]; exact hin.rows k hk
  · intro tm σ ⟨h0, h1, h5, h8, h9, h64, h65, h66, h', m', hσ, hin⟩ S hQ
    subst hσ
    have hlt : ¬ ((R.rs.length : Int) < (R.rs.length : Int)) := by omega
    simp -implicitDefEqProofs only [a47_L1, ev0, ev1, ev2, ev3, ev4, ev5, ev6, ev7, evx, if_true, if_false, Nat.reduceEqDiff, Nat.reduceAdd, Nat.reduceMul, Nat.reduceSub, ↓reduceIte, reduceCtorEq, Nat.reduceLeDiff, Nat.reduceLT, Int.reduceLE, Int.reduceLT, Int.reduceEq, Int.reduceNeg, Int.reduceToNat, h65, h66, hlt]
    exact hQ _ _ _ (by simp) ⟨rfl, by simp -implicitDefEqProofs only [ev0, ev1, ev2, ev3, ev4, ev5, ev6, ev7, evx, if_true, if_false, Nat.reduceEqDiff, Nat.reduceAdd, Nat.reduceMul, Nat.reduceSub, ↓reduceIte, reduceCtorEq, Nat.reduceLeDiff, Nat.reduceLT, Int.reduceLE, Int.reduceLT, Int.reduceEq, Int.reduceNeg, Int.reduceToNat, h0], by simp -implicitDefEqProofs only [ev0, ev1, ev2, ev3, ev4, ev5, ev6, ev7, evx, if_true, if_false, Nat.reduceEqDiff, Nat.reduceAdd, Nat.reduceMul, Nat.reduceSub, ↓reduceIte, reduceCtorEq, Nat.reduceLeDiff, Nat.reduceLT, Int.reduceLE, Int.reduceLT, Int.reduceEq, Int.reduceNeg, Int.reduceToNat, h1], by simp -implicitDefEqProofs only [ev0, ev1, ev2, ev3, ev4, ev5, ev6, ev7, evx, if_true, if_false, Nat.reduceEqDiff, Nat.reduceAdd, Nat.reduceMul, Nat.reduceSub, ↓reduceIte, reduceCtorEq, Nat.reduceLeDiff, Nat.reduceLT, Int.reduceLE, Int.reduceLT, Int.reduceEq, Int.reduceNeg, Int.reduceToNat, h5], by simp -implicitDefEqProofs only [ev0, ev1, ev2, ev3, ev4, ev5, ev6, ev7, evx, if_true, if_false, Nat.reduceEqDiff, Nat.reduceAdd, Nat.reduceMul, Nat.reduceSub, ↓reduceIte, reduceCtorEq, Nat.reduceLeDiff, Nat.reduceLT, Int.reduceLE, Int.reduceLT, Int.reduceEq, Int.reduceNeg, Int.reduceToNat, h8], by simp -implicitDefEqProofs only [ev0, ev1, ev2, ev3, ev4, ev5, ev6, ev7, evx, if_true, if_false, Nat.reduceEqDiff, Nat.reduceAdd, Nat.reduceMul, Nat.reduceSub, ↓reduceIte, reduceCtorEq, Nat.reduceLeDiff, Nat.reduceLT, Int.reduceLE, Int.reduceLT, Int.reduceEq, Int.reduceNeg, Int.reduceToNat, h9], h', m', rfl, hin⟩
end
end Go.AM
/- The days of a year. -/
namespace Go.AM
open Go
noncomputable section
variable {tm tm' : T AV} {σ σ' : AS} {h h' : T AObj} {n n' fl : Nat} {v : AV} {sl P C B : AV} {g : List Int}

def flatR (f : Nat → List Int) : Nat → List AV
  | 0 => []
  | t + 1 => flatR f t ++ ints (f t)
theorem flatR_len {f : Nat → List Int} {k : Nat} (hf : ∀ i, (f i).length = k) : ∀ t, (flatR f t).length = t * k
  | 0 => by simp [flatR]
  | t + 1 => by rw [flatR, List.length_append, flatR_len hf t, ints_len, hf, Nat.add_mul]; omega
theorem ints_all {l : List Int} : (ints l).all AV.scalar = true := by
  rw [List.all_eq_true]
  intro x hx
  obtain ⟨a, _, rfl⟩ := List.mem_map.1 hx
  rfl
theorem flatR_rd {f : Nat → List Int} {k : Nat} (hf : ∀ i, (f i).length = k) : ∀ {t i : Nat}, i < t → rd (flatR f t) (i * k) k = some (ints (f i))
  | 0, _, h => by omega
  | t + 1, i, h => by
    have hl := flatR_len hf t
    rw [rd_E]
    have hle : i * k + k ≤ (flatR f (t + 1)).length := by
      rw [flatR_len hf]
      have : (i + 1) * k ≤ (t + 1) * k := Nat.mul_le_mul_right _ (by omega)
      rw [Nat.add_mul] at this; omega
    simp only [hle, decide_true, cond_true]
    by_cases e : i = t
    · subst e
      rw [flatR, ← hl, List.drop_left]
      congr 1
      rw [← hf i, ← ints_len, List.take_length]
    · have := flatR_rd hf (show i < t by omega)
      rw [rd_E] at this
      have hle2 : i * k + k ≤ (flatR f t).length := by
        rw [hl]
        have : (i + 1) * k ≤ t * k := Nat.mul_le_mul_right _ (by omega)
        rw [Nat.add_mul] at this; omega
      simp only [hle2, decide_true, cond_true, Option.some.injEq] at this
      rw [flatR, List.drop_append_of_le_length (by omega), List.take_append_of_le_length (by rw [List.length_drop]; omega), this]
/-- The row of a day. -/
def rowL (R : River) (d : Nat) : List Int := (List.range 8).map fun k => if k < R.rs.length then com R k d else 0
theorem rowL_len (R : River) (d : Nat) : (rowL R d).length = 8 := by simp [rowL]
theorem nL_zero (R : River) {t : Nat} : nL R t 0 = rowL R (t - 1) := by unfold nL rowL; exact List.map_congr_left fun k _ => by simp
theorem nL_all (R : River) {t : Nat} : nL R t R.rs.length = rowL R t := by
  unfold nL rowL
  exact List.map_congr_left fun k _ => by
    by_cases c : k < R.rs.length <;> simp [c]
theorem gL_next (R : River) {t : Nat} : gL R (t + 1) 0 = gL R t R.rs.length := by
  unfold gL
  exact List.map_congr_left fun k _ => by
    by_cases c : k < R.rs.length <;> simp [c]

/-- What holds at the top of day t. -/
structure YearInv (R : River) (D t nY y bm pb : Nat) (rb : Nat → Nat) (sl P : AV) (m1 : Nat) (h h' : T AObj) (m' : Nat) (C B : AV) : Prop where
  le : m1 ≤ m'
  fresh : Fresh h' m'
  frame : Agree nY h h'
  pbk : h'.get pb = some (.cells ((List.range R.rs.length).map fun i => .slc (some (rb i, 0)) D D 2 .exact) false)
  year : h'.get y = some (.cells (yearCells R.days sl P C B (gL R t 0)) false)
  com : GrowSl h' 64 8 C t (flatR (rowL R) t)
  boom : GrowSl h' 2 1 B t (ints ((List.range t).map (bom R)))
  map : ∃ m cl, h'.get bm = some (mobj m cl) ∧ MOK m cl ∧ ∀ j d, Rel2 t 0 j d → mget m j d = cmf R t 0 j d
  rows : ∀ k, k < R.rs.length → ∃ l, h'.get (rb k) = some (.cells l false) ∧ l.length = D ∧ l.all AV.scalar = true
  cpl : ∀ b, blkOf C = some b → nY ≤ b ∧ b ≠ y ∧ b ≠ bm ∧ b ≠ pb ∧ ∀ k, k < R.rs.length → b ≠ rb k
  bpl : ∀ b, blkOf B = some b → nY ≤ b ∧ b ≠ y ∧ b ≠ bm ∧ b ≠ pb ∧ ∀ k, k < R.rs.length → b ≠ rb k
  cb : ∀ b, blkOf C = some b → blkOf B ≠ some b

theorem run_L2 {R : River} {D nY y bm pb m1 : Nat} {rb : Nat → Nat} {ck : CK} (hv : Valid R) (hd : R.days = (D : Int)) (hp : Places R D nY fl y bm m1 pb (m1 + 1) rb)
    (hs : SlV h 8 (some 8) sl (R.rs.map Reach.av)) (hsb : ∀ b, blkOf sl = some b → b < nY) (hP : P = .slc (some (pb, 0)) R.rs.length R.rs.length 40 ck)
    {C0 B0 : AV} (hinv : YearInv R D 1 nY y bm pb rb sl P m1 h h m1 C0 B0) (hbm2 : bm < m1) (hpm2 : pb < m1) (hrm2 : ∀ k, k < R.rs.length → rb k < m1) (hym2 : y < m1)
    (h0 : tm.get 0 = some (.ptr (some (y, 0)))) (h1 : tm.get 1 = some (.fn 52 [.ptr (some (y, 0))] [])) (h5 : tm.get 5 = some (.map (some bm))) (h8 : tm.get 8 = some (.int .i64 1)) :
    Done ((lim ft (oraOf 10 true)).exec (.loop a47_L2) tm ⟨h, m1, fl⟩) fun x _ σ' => x = .exit 2 ∧ ∃ h' m' C B, σ' = ⟨h', m', fl⟩ ∧ YearInv R D (D + 1) nY y bm pb rb sl P m1 h h' m' C B := by
  refine loop_up (fun k tm σ => tm.get 0 = some (.ptr (some (y, 0))) ∧ tm.get 1 = some (.fn 52 [.ptr (some (y, 0))] []) ∧ tm.get 5 = some (.map (some bm)) ∧ tm.get 8 = some (.int .i64 ((k + 1 : Nat) : Int)) ∧
      ∃ h' m' C B, σ = ⟨h', m', fl⟩ ∧ YearInv R D (k + 1) nY y bm pb rb sl P m1 h h' m' C B) _ D ?_ ?_
    D 0 tm _ (by simp) ⟨h0, h1, h5, h8, h, m1, C0, B0, rfl, hinv⟩
  · intro k tm σ hk ⟨h0, h1, h5, h8, h', m', C, B, hσ, hin⟩ S hI hQ
    subst hσ
    obtain ⟨t, ht⟩ : ∃ t, t = k + 1 := ⟨_, rfl⟩
    rw [← ht] at h8 hin
    have hd2 := hv.d2
    have hl8 := hv.l2
    have ht1 : 1 ≤ t := by omega
    have htD : t ≤ D := by omega
    have hle := hin.le
    have hyl := hp.yl
    have hbl := hp.bl
    have hfl := hp.fl
    have fy : fl ≤ y := by omega
    have fm0 : fl ≤ m' := by have := hp.nl; omega
    have hdays : ((t : Int) ≤ R.days) := by omega
    have hwt : wrapF .i64 ((t : Int) - 1) = ((t - 1 : Nat) : Int) := by rw [wrap64 (by omega) (by omega)]; omega
    have hwt2 : wrapF .i64 ((t : Int) + 1) = ((k + 1 + 1 : Nat) : Int) := by rw [wrap64 (by omega) (by omega)]; omega
    have hlt1 : t - 1 < t := by omega
    have n1 := ne_new (show y < m' by omega)
    have n2 := ne_newk (show y < m' by omega)
    obtain ⟨cb, ck1, rfl, hcb⟩ := hin.com.shape (by omega)
    obtain ⟨bb, ck2, rfl, hbb⟩ := hin.boom.shape (by omega)
    have hcm := hin.fresh _ _ hcb
    have hbm := hin.fresh _ _ hbb
    obtain ⟨cp1, cp2, cp3, cp4, cp5⟩ := hin.cpl cb rfl
    obtain ⟨bp1, bp2, bp3, bp4, bp5⟩ := hin.bpl bb rfl
    have hcbb : cb ≠ bb := fun e => hin.cb cb rfl (by rw [e]; rfl)
    have hrow : rdk (h'.get cb) ((t - 1) * 8) 8 = some (ints (rowL R (t - 1))) := by rw [hcb, rdk_s, flatR_rd (rowL_len R) (by omega)]
    have hz : ∀ d, wr [.int .i64 0, .int .i64 0, .int .i64 0, .int .i64 0, .int .i64 0, .int .i64 0, .int .i64 0, .int .i64 0] 0 (ints (rowL R d)) = ints (rowL R d) := fun d => by
      unfold wr
      rw [ints_len, rowL_len]; simp
    have hrl := rowL_len R
    have hal : ∀ d, (ints (rowL R d)).all AV.scalar = true := fun d => ints_all
    -- the day's own row
    have f1 : Fresh (h'.put m' (some (.cells (ints (rowL R (t - 1))) false))) (m' + 1) := hin.fresh.put (by omega) (by omega)
    have hsA : SlV (h'.put m' (some (.cells (ints (rowL R (t - 1))) false))) 8 (some 8) sl (R.rs.map Reach.av) := hs.keep fun b hb => by
      have := hsb b hb
      rw [hget_ne (by omega)]; exact hin.frame b this
    have hpl : Places R D nY fl y bm m' pb (m' + 1) rb :=
      ⟨hp.yl, hp.bl, by have := hp.nl; omega, hp.rl, hp.fl, by omega, by omega, by omega, by omega, fun i hi => by have := hrm2 i hi; omega, hp.yb, by omega, hp.yp, by omega, hp.bp, by omega, hp.ry, hp.rbm, fun i hi => by have := hrm2 i hi; omega, hp.rp⟩
    obtain ⟨m, cl, hmb, hmok, hmg⟩ := hin.map
    have hday : DayInv R D t 0 y bm m' rb sl P (.slc (some (cb, 0)) t t 64 ck1) (.slc (some (bb, 0)) t t 2 ck2) (m' + 1) (h'.put m' (some (.cells (ints (rowL R (t - 1))) false))) (h'.put m' (some (.cells (ints (rowL R (t - 1))) false))) (m' + 1) :=
      ⟨Nat.le_refl _, f1, fun _ _ _ _ _ _ => rfl, by rw [hget_ne (by omega)]; exact hin.year, by rw [hget_eq, nL_zero], ⟨m, cl, by rw [hget_ne (by omega)]; exact hmb, hmok, hmg⟩, fun i hi => by rw [hget_ne (by have := hrm2 i hi; omega)]; exact hin.rows i hi⟩
    obtain ⟨aS, cS, eS, ckS, hslE⟩ := hs.shape (List.length_map _)
    have hyc1 : (yearCells R.days sl P (.slc (some (cb, 0)) t t 64 ck1) (.slc (some (bb, 0)) t t 2 ck2) (gL R t 0))[1]? = some (.slc aS R.rs.length cS eS ckS) := by rw [yc1, hslE]
    have hw0 : ∀ (T0 : T AV), T0.get 0 = some (.ptr (some (y, 0))) → T0.get 1 = some (.fn 52 [.ptr (some (y, 0))] []) → T0.get 5 = some (.map (some bm)) → T0.get 8 = some (.int .i64 (t : Int)) → T0.get 9 = some (.ptr (some (m', 0))) → T0.get 64 = some (.slc aS R.rs.length cS eS ckS) →
        T0.get 65 = some (.int .i64 R.rs.length) → T0.get 66 = some (.int .i64 0) → _ := fun T0 e0 e1 e5 e8 e9 e64 e65 e66 =>
      run_L1 (tm := T0) (fl := fl) hv hd ht1 htD hpl hsA hsb hP (by rw [hget_ne (by omega)]; exact hin.pbk) hday e0 e1 e5 e8 e9 (by rw [hslE]; exact e64) e65 e66
    simp -implicitDefEqProofs only [a47_L2, ev0, ev1, ev2, ev3, ev4, ev5, ev6, ev7, evx, if_true, if_false, Nat.reduceEqDiff, Nat.reduceAdd, Nat.reduceMul, Nat.reduceSub, ↓reduceIte, reduceCtorEq, Nat.reduceLeDiff, Nat.reduceLT, Int.reduceLE, Int.reduceLT, Int.reduceEq, Int.reduceNeg, Int.reduceToNat, h0, h1, h5, h8, hdays, n1, n2, hin.year, yc0, yc1, yc3, hyc1, hwt, hlt1, hrow, hz, hrl, hal, fm0]
    generalize hT : T.put _ 66 _ = T0
    obtain ⟨x, tm', σ', e1, rfl, g0, g1, g5, g8, g9, h2, m2, rfl, di⟩ := hw0 T0 (by subst hT; simp -implicitDefEqProofs only [ev0, ev1, ev2, ev3, ev4, ev5, ev6, ev7, evx, if_true, if_false, Nat.reduceEqDiff, Nat.reduceAdd, Nat.reduceMul, Nat.reduceSub, ↓reduceIte, reduceCtorEq, Nat.reduceLeDiff, Nat.reduceLT, Int.reduceLE, Int.reduceLT, Int.reduceEq, Int.reduceNeg, Int.reduceToNat, h0]) (by subst hT; simp -implicitDefEqProofs only [ev0, ev1, ev2, ev3, ev4, ev5, ev6, ev7, evx, if_true, if_false, Nat.reduceEqDiff, Nat.reduceAdd, Nat.reduceMul, Nat.reduceSub, ↓reduceIte, reduceCtorEq, Nat.reduceLeDiff, Nat.reduceLT, Int.reduceLE, Int.reduceLT, Int.reduceEq, Int.reduceNeg, Int.reduceToNat, h1]) (by subst hT; simp -implicitDefEqProofs only [ev0, ev1, ev2, ev3, ev4, ev5, ev6, ev7, evx, if_true, if_false, Nat.reduceEqDiff, Nat.reduceAdd, Nat.reduceMul, Nat.reduceSub, ↓reduceIte, reduceCtorEq, Nat.reduceLeDiff, Nat.reduceLT, Int.reduceLE, Int.reduceLT, Int.reduceEq, Int.reduceNeg, Int.reduceToNat, h5]) (by subst hT; simp -implicitDefEqProofs only [ev0, ev1, ev2, ev3, ev4, ev5, ev6, ev7, evx, if_true, if_false, Nat.reduceEqDiff, Nat.reduceAdd, Nat.reduceMul, Nat.reduceSub, ↓reduceIte, reduceCtorEq, Nat.reduceLeDiff, Nat.reduceLT, Int.reduceLE, Int.reduceLT, Int.reduceEq, Int.reduceNeg, Int.reduceToNat, h8]) (by subst hT; simp -implicitDefEqProofs only [ev0, ev1, ev2, ev3, ev4, ev5, ev6, ev7, evx, if_true, if_false, Nat.reduceEqDiff, Nat.reduceAdd, Nat.reduceMul, Nat.reduceSub, ↓reduceIte, reduceCtorEq, Nat.reduceLeDiff, Nat.reduceLT, Int.reduceLE, Int.reduceLT, Int.reduceEq, Int.reduceNeg, Int.reduceToNat]) (by subst hT; simp -implicitDefEqProofs only [ev0, ev1, ev2, ev3, ev4, ev5, ev6, ev7, evx, if_true, if_false, Nat.reduceEqDiff, Nat.reduceAdd, Nat.reduceMul, Nat.reduceSub, ↓reduceIte, reduceCtorEq, Nat.reduceLeDiff, Nat.reduceLT, Int.reduceLE, Int.reduceLT, Int.reduceEq, Int.reduceNeg, Int.reduceToNat]) (by subst hT; simp -implicitDefEqProofs only [ev0, ev1, ev2, ev3, ev4, ev5, ev6, ev7, evx, if_true, if_false, Nat.reduceEqDiff, Nat.reduceAdd, Nat.reduceMul, Nat.reduceSub, ↓reduceIte, reduceCtorEq, Nat.reduceLeDiff, Nat.reduceLT, Int.reduceLE, Int.reduceLT, Int.reduceEq, Int.reduceNeg, Int.reduceToNat]) (by subst hT; simp -implicitDefEqProofs only [ev0, ev1, ev2, ev3, ev4, ev5, ev6, ev7, evx, if_true, if_false, Nat.reduceEqDiff, Nat.reduceAdd, Nat.reduceMul, Nat.reduceSub, ↓reduceIte, reduceCtorEq, Nat.reduceLeDiff, Nat.reduceLT, Int.reduceLE, Int.reduceLT, Int.reduceEq, Int.reduceNeg, Int.reduceToNat])
    have hm2 := di.le
    have di1 := di.year
    have di2 := di.now
    rw [nL_all] at di2
    obtain ⟨mm, cl2, hmm, hmmok, hmmg⟩ := di.map
    have fr2 : ∀ b, b < m' → b ≠ y → b ≠ bm → (∀ k, k < R.rs.length → b ≠ rb k) → h2.get b = h'.get b := fun b c1 c2 c3 c4 => by
      rw [di.frame b (by omega) c2 c3 (by omega) c4, hget_ne (by omega)]
    have hcb2 : h2.get cb = h'.get cb := fr2 cb hcm cp2 cp3 cp5
    have hbb2 : h2.get bb = h'.get bb := fr2 bb hbm bp2 bp3 bp5
    have gC := (hin.com.keep (h' := h2) fun b hb => by cases hb; exact hcb2).put (b := m2) (o := some (.cells (ints (rowL R t)) false)) (fun e => by cases e; omega)
    have fC : Fresh (h2.put m2 (some (.cells (ints (rowL R t)) false))) (m2 + 1) := di.fresh.put (by omega) (by omega)
    obtain ⟨h3, eC, gC3, f3, k3⟩ := gC.append (fl := fl) (bytes := 64) (k := 1) (bx := m2) (ox := 0) (c := 1) (e := 64) (ck := .exact) (new := ints (rowL R t)) (fun b hb => by cases hb; omega) fC
      (by rw [hget_eq, rdk_s]; exact rd_whole (by rw [ints_len, rowL_len])) (by omega) (by omega) (by rw [ints_len, rowL_len]) ints_all
    have kk3 : ∀ b, b < m2 → b ≠ cb → h3.get b = h2.get b := fun b c1 c2 => by rw [k3 b (by omega) (fun e => by cases e; exact c2 rfl), hget_ne (by omega)]
    have y3 : h3.get y = some (.cells (yearCells R.days sl P (.slc (some (cb, 0)) t t 64 ck1) (.slc (some (bb, 0)) t t 2 ck2) (gL R t R.rs.length)) false) := by rw [kk3 y (by omega) (Ne.symm cp2)]; exact di1
    have b3 : h3.get bb = some (.cells (ints ((List.range t).map (bom R))) false) := by rw [kk3 bb (by omega) (Ne.symm hcbb), hbb2]; exact hbb
    have m3 : h3.get bm = some (mobj mm cl2) := by rw [kk3 bm (by omega) (Ne.symm cp3)]; exact hmm
    have gB := ((hin.boom.keep (h' := h3) fun b hb => by cases hb; rw [b3, hbb]).put (b := y) (o := some (.cells (yearCells R.days sl P (.slc (some (m2 + 1, 0)) (t + 1) (t + 1) 64 .tail) (.slc (some (bb, 0)) t t 2 ck2) (gL R t R.rs.length)) false)) (fun e => by cases e; exact bp2 rfl)).put (b := m2 + 2) (o := some (.cells [.int .i64 (bom R t)] false)) (fun e => by cases e; omega)
    have fB : Fresh ((h3.put y (some (.cells (yearCells R.days sl P (.slc (some (m2 + 1, 0)) (t + 1) (t + 1) 64 .tail) (.slc (some (bb, 0)) t t 2 ck2) (gL R t R.rs.length)) false))).put (m2 + 2) (some (.cells [.int .i64 (bom R t)] false))) (m2 + 3) :=
      (f3.put (n' := m2 + 2) (by omega) (by omega)).put (by omega) (by omega)
    obtain ⟨h6, eB, gB6, f6, k6⟩ := gB.append (fl := fl) (bytes := 8) (k := 1) (bx := m2 + 2) (ox := 0) (c := 1) (e := 2) (ck := .exact) (new := [.int .i64 (bom R t)]) (fun b hb => by cases hb; omega) fB
      (by rw [hget_eq, rdk_s]; rfl) (by omega) (by omega) rfl rfl
    have kk6 : ∀ b, b < m2 + 2 → b ≠ y → b ≠ bb → h6.get b = h3.get b := fun b c1 c2 c3 => by rw [k6 b (by omega) (fun e => by cases e; exact c3 rfl), hget_ne (by omega), hget_ne c2]
    have y6 : h6.get y = some (.cells (yearCells R.days sl P (.slc (some (m2 + 1, 0)) (t + 1) (t + 1) 64 .tail) (.slc (some (bb, 0)) t t 2 ck2) (gL R t R.rs.length)) false) := by
      rw [k6 y (by omega) (fun e => by cases e; exact bp2 rfl), hget_ne (by omega), hget_eq]
    have hyl2 : ∀ C B g, (yearCells R.days sl P C B g).length = 5 + g.length := fun C B g => yc_len
    have hgl := gL_len R
    have htk : List.take 8 (ints (rowL R t)) = ints (rowL R t) := by rw [← rowL_len R t, ← ints_len, List.take_length]
    have hbt : (ints ((List.range t).map (bom R)))[t - 1]? = some (.int .i64 (bom R (t - 1))) := ints_i (by rw [List.getElem?_map, List.getElem?_range (by omega)]; rfl)
    have hck : mget mm (-1) (t : Int) = cmf R t R.rs.length (-1) t := hmmg _ _ (.inr ⟨rfl, .inr rfl⟩)
    have hbo := cm_boom hv ht1
    have hbl := bom_le hv t
    have hwb : wrapF .i64 (bom R (t - 1) + cmf R t R.rs.length (-1) t) = bom R t := by rw [hbo]; exact wrap64 (by omega) (by omega)
    have q1 := ne_new (show y < m2 by omega)
    have q2 := ne_newk (show y < m2 by omega)
    have q3 := ne_f (Ne.symm cp2)
    have q4 := ne_f bp2
    have q5 := ne_newk (show bb < m2 by omega)
    have q6 := ne_newk (show bm < m2 by omega)
    have q7 := ne_f (Ne.symm hp.yb)
    have q8 := ne_new (show bm < m2 by omega)
    have fm2 : fl ≤ m2 := by omega
    simp -implicitDefEqProofs only [e1, ev0, ev1, ev2, ev3, ev4, ev5, ev6, ev7, evx, if_true, if_false, Nat.reduceEqDiff, Nat.reduceAdd, Nat.reduceMul, Nat.reduceSub, ↓reduceIte, reduceCtorEq, Nat.reduceLeDiff, Nat.reduceLT, Int.reduceLE, Int.reduceLT, Int.reduceEq, Int.reduceNeg, Int.reduceToNat, g0, g1, g5, g8, g9, di1, di2, yc3, yc4, yw3, yw4, hrl, hal, hz, htk, eC, y3, b3, m3, hwt, hlt1, hbt, hck, hwb, q1, q2, q3, q4, q5, q6, q7, q8, fy, fm2, hyl2, hgl, eB, y6, hwt2]
    have hnx : t + 1 = k + 1 + 1 := by omega
    refine hI _ _ ⟨by simp -implicitDefEqProofs only [ev0, ev1, ev2, ev3, ev4, ev5, ev6, ev7, evx, if_true, if_false, Nat.reduceEqDiff, Nat.reduceAdd, Nat.reduceMul, Nat.reduceSub, ↓reduceIte, reduceCtorEq, Nat.reduceLeDiff, Nat.reduceLT, Int.reduceLE, Int.reduceLT, Int.reduceEq, Int.reduceNeg, Int.reduceToNat, g0], by simp -implicitDefEqProofs only [ev0, ev1, ev2, ev3, ev4, ev5, ev6, ev7, evx, if_true, if_false, Nat.reduceEqDiff, Nat.reduceAdd, Nat.reduceMul, Nat.reduceSub, ↓reduceIte, reduceCtorEq, Nat.reduceLeDiff, Nat.reduceLT, Int.reduceLE, Int.reduceLT, Int.reduceEq, Int.reduceNeg, Int.reduceToNat, g1], by simp -implicitDefEqProofs only [ev0, ev1, ev2, ev3, ev4, ev5, ev6, ev7, evx, if_true, if_false, Nat.reduceEqDiff, Nat.reduceAdd, Nat.reduceMul, Nat.reduceSub, ↓reduceIte, reduceCtorEq, Nat.reduceLeDiff, Nat.reduceLT, Int.reduceLE, Int.reduceLT, Int.reduceEq, Int.reduceNeg, Int.reduceToNat, g5], by simp -implicitDefEqProofs only [ev0, ev1, ev2, ev3, ev4, ev5, ev6, ev7, evx, if_true, if_false, Nat.reduceEqDiff, Nat.reduceAdd, Nat.reduceMul, Nat.reduceSub, ↓reduceIte, reduceCtorEq, Nat.reduceLeDiff, Nat.reduceLT, Int.reduceLE, Int.reduceLT, Int.reduceEq, Int.reduceNeg, Int.reduceToNat], _, m2 + 4, .slc (some (m2 + 1, 0)) (t + 1) (t + 1) 64 .tail, .slc (some (m2 + 3, 0)) (t + 1) (t + 1) 2 .tail, rfl, ?_⟩
    rw [← hnx]
    have hy6 : ∀ b, b < m2 + 2 → b ≠ y → b ≠ bb → ∀ o, (h6.put y o).get b = h3.get b := fun b c1 c2 c3 o => by rw [hget_ne c2, kk6 b c1 c2 c3]
    refine ⟨by omega, f6.put (by omega) (by omega), fun b hb => ?_, ?_, ?_, ?_, ?_, ⟨mm, cl2, ?_, hmmok, fun j d hr => ?_⟩, fun i hi => ?_, fun b hb => ?_, fun b hb => ?_, fun b hb => ?_⟩
    · rw [hy6 b (by omega) (by omega) (by omega), kk3 b (by omega) (by omega), fr2 b (by omega) (by omega) (by omega) (fun k hk => by have := hp.rl k hk; omega)]
      exact hin.frame b hb
    · rw [hy6 pb (by omega) (Ne.symm hp.yp) (Ne.symm bp4), kk3 pb (by omega) (Ne.symm cp4), fr2 pb (by omega) (Ne.symm hp.yp) (Ne.symm hp.bp) (fun k hk => Ne.symm (hp.rp k hk))]
      exact hin.pbk
    · rw [hget_eq, gL_next]
    · refine (gC3.keep (h' := h6.put y _) fun b hb => ?_)
      cases hb
      exact hy6 _ (by omega) (by omega) (by omega) _
    · have : ints ((List.range (t + 1)).map (bom R)) = ints ((List.range t).map (bom R)) ++ [.int .i64 (bom R t)] := by
        rw [List.range_succ, List.map_append]; simp [ints]
      rw [this]
      exact gB6.put (fun e => by cases e; omega)
    · rw [hy6 bm (by omega) (Ne.symm hp.yb) (Ne.symm bp3)]; exact m3
    · rw [cm_next, hmmg j d]
      rcases hr with hr | ⟨hr, _⟩
      · exact .inl (by omega)
      · exact .inl (by omega)
    · have := hrm2 i hi
      rw [hy6 _ (by omega) (hp.ry i hi) (Ne.symm (bp5 i hi)), kk3 _ (by omega) (Ne.symm (cp5 i hi))]
      exact di.rows i hi
    · cases hb
      exact ⟨by omega, by omega, by omega, by omega, fun i hi => by have := hrm2 i hi; omega⟩
    · cases hb
      exact ⟨by omega, by omega, by omega, by omega, fun i hi => by have := hrm2 i hi; omega⟩
    · cases hb
      intro e; cases e
  · intro tm σ ⟨h0, h1, h5, h8, h', m', C, B, hσ, hin⟩ S hQ
    subst hσ
    have hlt : ¬ (((D + 1 : Nat) : Int) ≤ (R.days : Int)) := by omega
    simp -implicitDefEqProofs only [a47_L2, ev0, ev1, ev2, ev3, ev4, ev5, ev6, ev7, evx, if_true, if_false, Nat.reduceEqDiff, Nat.reduceAdd, Nat.reduceMul, Nat.reduceSub, ↓reduceIte, reduceCtorEq, Nat.reduceLeDiff, Nat.reduceLT, Int.reduceLE, Int.reduceLT, Int.reduceEq, Int.reduceNeg, Int.reduceToNat, h0, h8, hin.year, yc0, hlt]
    exact hQ _ _ _ (by simp) ⟨rfl, h', m', C, B, rfl, hin⟩
end
end Go.AM
/- The early plan's year; Most. -/
namespace Go.AM
open Go
noncomputable section
variable {tm tm' : T AV} {σ σ' : AS} {h h' : T AObj} {n n' fl : Nat} {v : AV} {sl P C B : AV} {g : List Int}

theorem bounds_nnn {l c : Nat} : bounds3 l c none none none = some (0, l, c) := rfl
theorem opdO_n : opdO none tm = some none := rfl
theorem zeros8 : sizedZeros [.int .i64 0] 8 = ints [0, 0, 0, 0, 0, 0, 0, 0] := rfl
theorem map8 {f : Nat → Int} (hf : ∀ k, k < 8 → f k = 0) : (List.range 8).map f = [0, 0, 0, 0, 0, 0, 0, 0] := by
  have : (List.range 8).map f = (List.range 8).map fun _ => (0 : Int) := List.map_congr_left fun k hk => hf k (List.mem_range.1 hk)
  rw [this]; rfl
theorem rowL_zero {R : River} (hv : Valid R) : rowL R 0 = [0, 0, 0, 0, 0, 0, 0, 0] := map8 fun k _ => by
  by_cases c : k < R.rs.length
  · rw [if_pos c]; exact com_zero hv c
  · rw [if_neg c]
theorem gL_one {R : River} : gL R 1 0 = [0, 0, 0, 0, 0, 0, 0, 0] := map8 fun k _ => by
  by_cases c : k < R.rs.length
  · rw [if_pos c, if_neg (by omega)]; exact ent_zero R k
  · rw [if_neg c]

/-- A year that has gone by. -/
structure Year (R : River) (D n : Nat) (sl : AV) (h h' : T AObj) (n' y : Nat) (P C B : AV) : Prop where
  le : n ≤ n'
  yl : n ≤ y
  fresh : Fresh h' n'
  frame : Agree n h h'
  year : h'.get y = some (.cells (yearCells R.days sl P C B (gL R (D + 1) 0)) false)
  com : GrowSl h' 64 8 C (D + 1) (flatR (rowL R) (D + 1))
  boom : GrowSl h' 2 1 B (D + 1) (ints ((List.range (D + 1)).map (bom R)))

theorem run_call {R : River} {D n0 pb : Nat} {rb : Nat → Nat} {h0 : T AObj} (hd : R.days = (D : Int)) (hv : Valid R) (hs : SlV h 8 (some 8) sl (R.rs.map Reach.av)) (hsb : ∀ b, blkOf sl = some b → b < n0) (hfl : fl ≤ n0)
    (hy : NewYear n0 h0 h n R D (n0 + 3) sl P pb rb) :
    ∃ v σ', (lim ft (oraOf 10 true)).call (.fn 47 [] []) [.ptr (some (n0 + 3, 0)), .fn 52 [.ptr (some (n0 + 3, 0))] []] ⟨h, n, fl⟩ = some (v, σ') ∧ ∃ h' n' C B, σ' = ⟨h', n', fl⟩ ∧ Year R D n0 sl h h' n' (n0 + 3) P C B := by
  have hl1 := hv.l1
  have hl8 := hv.l2
  have hle := hy.le
  obtain ⟨pb2, ck, hPe, hpb⟩ := hy.plan.grow.shape (by omega)
  obtain ⟨rfl, hp1, hp2⟩ := hy.plan.blk pb2 (by rw [hPe]; rfl)
  obtain ⟨aS, cS, eS, ckS, hslE⟩ := hs.shape (List.length_map _)
  have fy : fl ≤ n0 + 3 := by omega
  have hY := hy.year
  have hyl : (yearCells R.days sl P (.slc (some (n0 + 1, 0)) 1 1 64 .exact) (.slc (some (n0 + 2, 0)) 1 1 2 .exact) [0, 0, 0, 0, 0, 0, 0, 0]).length = 13 := yc_len
  have hset := yw5 (days := R.days) (sl := sl) (P := P) (C := .slc (some (n0 + 1, 0)) 1 1 64 .exact) (B := .slc (some (n0 + 2, 0)) 1 1 2 .exact) (vs := [0, 0, 0, 0, 0, 0, 0, 0]) (g := [0, 0, 0, 0, 0, 0, 0, 0]) rfl
  have hyc1 : (yearCells R.days sl P (.slc (some (n0 + 1, 0)) 1 1 64 .exact) (.slc (some (n0 + 2, 0)) 1 1 2 .exact) [0, 0, 0, 0, 0, 0, 0, 0])[1]? = some (.slc aS R.rs.length cS eS ckS) := by rw [yc1, hslE]
  have hal : (ints [0, 0, 0, 0, 0, 0, 0, 0]).all AV.scalar = true := ints_all
  have n1 : (n0 + 3 = n) = False := by simp; omega
  refine call_done rfl (by rfl) rfl rfl fun S hS => ?_
  simp -implicitDefEqProofs only [a47, ev0, ev1, ev2, ev3, ev4, ev5, ev6, ev7, evx, if_true, if_false, Nat.reduceEqDiff, Nat.reduceAdd, Nat.reduceMul, Nat.reduceSub, ↓reduceIte, reduceCtorEq, Nat.reduceLeDiff, Nat.reduceLT, Int.reduceLE, Int.reduceLT, Int.reduceEq, Int.reduceNeg, Int.reduceToNat, hY, opdO_n, bounds_nnn, zeros8, hyl, hal, hset, fy, n1, hyc1]
  generalize hT : T.put _ 26 _ = T0
  generalize hH : T.put _ n _ = H
  have fH : Fresh H (n + 1) := by
    subst hH
    exact (hy.fresh.put (b := n0 + 3) (n' := n) (by omega) (by omega)).put (by omega) (by omega)
  have kH : ∀ b, b < n → H.get b = h.get b := fun b hb => by
    subst hH
    rw [hget_ne (by omega), hget_put]
    split
    · rename_i e; rw [e, hY]
    · rfl
  have gH : H.get n = some (mobj [] 0) := by subst hH; rw [hget_eq]; rfl
  have hsH : SlV H 8 (some 8) sl (R.rs.map Reach.av) := hs.keep fun b hb => kH b (by have := hsb b hb; omega)
  obtain ⟨x, tm1, σ1, e1, rfl, g0, g1, g5, h1, m1, m, cl, rfl, hm1, f1, k1, hbm, hmok, hmg⟩ := run_L0 (tm := T0) (y := n0 + 3) (v := .fn 52 [.ptr (some (n0 + 3, 0))] []) (fl := fl) hv hsH fH (by omega) gH
    (by subst hT; simp -implicitDefEqProofs only [ev0, ev1, ev2, ev3, ev4, ev5, ev6, ev7, evx, if_true, if_false, Nat.reduceEqDiff, Nat.reduceAdd, Nat.reduceMul, Nat.reduceSub, ↓reduceIte, reduceCtorEq, Nat.reduceLeDiff, Nat.reduceLT, Int.reduceLE, Int.reduceLT, Int.reduceEq, Int.reduceNeg, Int.reduceToNat]) (by subst hT; rw [hslE]; simp -implicitDefEqProofs only [ev0, ev1, ev2, ev3, ev4, ev5, ev6, ev7, evx, if_true, if_false, Nat.reduceEqDiff, Nat.reduceAdd, Nat.reduceMul, Nat.reduceSub, ↓reduceIte, reduceCtorEq, Nat.reduceLeDiff, Nat.reduceLT, Int.reduceLE, Int.reduceLT, Int.reduceEq, Int.reduceNeg, Int.reduceToNat]) (by subst hT; simp -implicitDefEqProofs only [ev0, ev1, ev2, ev3, ev4, ev5, ev6, ev7, evx, if_true, if_false, Nat.reduceEqDiff, Nat.reduceAdd, Nat.reduceMul, Nat.reduceSub, ↓reduceIte, reduceCtorEq, Nat.reduceLeDiff, Nat.reduceLT, Int.reduceLE, Int.reduceLT, Int.reduceEq, Int.reduceNeg, Int.reduceToNat]) (by subst hT; simp -implicitDefEqProofs only [ev0, ev1, ev2, ev3, ev4, ev5, ev6, ev7, evx, if_true, if_false, Nat.reduceEqDiff, Nat.reduceAdd, Nat.reduceMul, Nat.reduceSub, ↓reduceIte, reduceCtorEq, Nat.reduceLeDiff, Nat.reduceLT, Int.reduceLE, Int.reduceLT, Int.reduceEq, Int.reduceNeg, Int.reduceToNat]) (by subst hT; simp -implicitDefEqProofs only [ev0, ev1, ev2, ev3, ev4, ev5, ev6, ev7, evx, if_true, if_false, Nat.reduceEqDiff, Nat.reduceAdd, Nat.reduceMul, Nat.reduceSub, ↓reduceIte, reduceCtorEq, Nat.reduceLeDiff, Nat.reduceLT, Int.reduceLE, Int.reduceLT, Int.reduceEq, Int.reduceNeg, Int.reduceToNat]) (by subst hT; simp -implicitDefEqProofs only [ev0, ev1, ev2, ev3, ev4, ev5, ev6, ev7, evx, if_true, if_false, Nat.reduceEqDiff, Nat.reduceAdd, Nat.reduceMul, Nat.reduceSub, ↓reduceIte, reduceCtorEq, Nat.reduceLeDiff, Nat.reduceLT, Int.reduceLE, Int.reduceLT, Int.reduceEq, Int.reduceNeg, Int.reduceToNat])
  have k2 : ∀ b, b < n → h1.get b = h.get b := fun b hb => by rw [k1 b (by omega) (by omega), kH b hb]
  have hs1 : SlV h1 8 (some 8) sl (R.rs.map Reach.av) := hs.keep fun b hb => k2 b (by have := hsb b hb; omega)
  have hpl : Places R D n0 fl (n0 + 3) n m1 pb2 (m1 + 1) rb :=
    ⟨by omega, by omega, by omega, fun i hi => by have := (hy.plan.row i hi).1; omega, hfl, by omega, by omega, by omega, by omega, fun i hi => by have := (hy.plan.row i hi).2.1; omega, by omega, by omega, by omega, by omega, by omega, by omega,
      fun i hi => by have := (hy.plan.row i hi).1; omega, fun i hi => by have := (hy.plan.row i hi).2.1; omega, fun i hi => by have := (hy.plan.row i hi).2.1; omega, fun i hi => (hy.plan.row i hi).2.2.1⟩
  have hin : YearInv R D 1 n0 (n0 + 3) n pb2 rb sl P m1 h1 h1 m1 (.slc (some (n0 + 1, 0)) 1 1 64 .exact) (.slc (some (n0 + 2, 0)) 1 1 2 .exact) := by
    refine ⟨Nat.le_refl _, f1, Agree.refl, ?_, ?_, ⟨.inr ⟨n0 + 1, .exact, rfl, by simp, ?_⟩, ?_, ?_⟩, ⟨.inr ⟨n0 + 2, .exact, rfl, by simp, ?_⟩, ?_, ?_⟩, ⟨m, cl, hbm, hmok, fun j d _ => ?_⟩, fun i hi => ?_, fun b hb => ?_, fun b hb => ?_, fun b hb => ?_⟩
    · rw [k2 _ hp2]; exact hpb
    · rw [k2 _ (by omega), gL_one]; exact hY
    · rw [k2 _ (by omega), hy.com]; simp only [flatR, List.nil_append, rowL_zero hv]
    · exact flatR_len (rowL_len R) 1
    · simp only [flatR, List.nil_append]; exact ints_all
    · rw [k2 _ (by omega), hy.boom]; simp [List.range_succ, bom_zero]
    · simp [ints_len]
    · exact ints_all
    · rw [hmg, cm_first]
    · obtain ⟨r1, r2, r3, l, r4⟩ := hy.plan.row i hi
      exact ⟨l, by rw [k2 _ r2]; exact r4.1, r4.2⟩
    · cases hb
      exact ⟨by omega, by omega, by omega, by omega, fun i hi => by have := (hy.plan.row i hi).1; omega⟩
    · cases hb
      exact ⟨by omega, by omega, by omega, by omega, fun i hi => by have := (hy.plan.row i hi).1; omega⟩
    · cases hb
      intro e; cases e
  obtain ⟨x, tm2, σ2, e2, rfl, h2, m2, C2, B2, rfl, hfin⟩ := run_L2 (tm := tm1.put 8 (some (.int .i64 1))) (fl := fl) hv hd hpl hs1 hsb hPe hin (by omega) (by omega) (fun i hi => by have := (hy.plan.row i hi).2.1; omega) (by omega)
    (by simp -implicitDefEqProofs only [ev0, ev1, ev2, ev3, ev4, ev5, ev6, ev7, evx, if_true, if_false, Nat.reduceEqDiff, Nat.reduceAdd, Nat.reduceMul, Nat.reduceSub, ↓reduceIte, reduceCtorEq, Nat.reduceLeDiff, Nat.reduceLT, Int.reduceLE, Int.reduceLT, Int.reduceEq, Int.reduceNeg, Int.reduceToNat, g0]) (by simp -implicitDefEqProofs only [ev0, ev1, ev2, ev3, ev4, ev5, ev6, ev7, evx, if_true, if_false, Nat.reduceEqDiff, Nat.reduceAdd, Nat.reduceMul, Nat.reduceSub, ↓reduceIte, reduceCtorEq, Nat.reduceLeDiff, Nat.reduceLT, Int.reduceLE, Int.reduceLT, Int.reduceEq, Int.reduceNeg, Int.reduceToNat, g1]) (by simp -implicitDefEqProofs only [ev0, ev1, ev2, ev3, ev4, ev5, ev6, ev7, evx, if_true, if_false, Nat.reduceEqDiff, Nat.reduceAdd, Nat.reduceMul, Nat.reduceSub, ↓reduceIte, reduceCtorEq, Nat.reduceLeDiff, Nat.reduceLT, Int.reduceLE, Int.reduceLT, Int.reduceEq, Int.reduceNeg, Int.reduceToNat, g5]) (by simp -implicitDefEqProofs only [ev0, ev1, ev2, ev3, ev4, ev5, ev6, ev7, evx, if_true, if_false, Nat.reduceEqDiff, Nat.reduceAdd, Nat.reduceMul, Nat.reduceSub, ↓reduceIte, reduceCtorEq, Nat.reduceLeDiff, Nat.reduceLT, Int.reduceLE, Int.reduceLT, Int.reduceEq, Int.reduceNeg, Int.reduceToNat])
  simp -implicitDefEqProofs only [e1, ev0, ev1, ev2, ev3, ev4, ev5, ev6, ev7, evx, if_true, if_false, Nat.reduceEqDiff, Nat.reduceAdd, Nat.reduceMul, Nat.reduceSub, ↓reduceIte, reduceCtorEq, Nat.reduceLeDiff, Nat.reduceLT, Int.reduceLE, Int.reduceLT, Int.reduceEq, Int.reduceNeg, Int.reduceToNat, e2]
  have hfl2 := hfin.le
  refine hS _ _ _ (.bool true) (by simp) (by simp -implicitDefEqProofs only [a47, ev0, ev1, ev2, ev3, ev4, ev5, ev6, ev7, evx, if_true, if_false, Nat.reduceEqDiff, Nat.reduceAdd, Nat.reduceMul, Nat.reduceSub, ↓reduceIte, reduceCtorEq, Nat.reduceLeDiff, Nat.reduceLT, Int.reduceLE, Int.reduceLT, Int.reduceEq, Int.reduceNeg, Int.reduceToNat]) ⟨h2, m2, C2, B2, rfl, by omega, by omega, hfin.fresh, fun b hb => ?_, hfin.year, hfin.com, hfin.boom⟩
  rw [hfin.frame b hb, k2 b (by omega)]

theorem early_call {R : River} {D : Nat} (hd : R.days = (D : Int)) (hv : Valid R) (hs : SlV h 8 (some 8) sl (R.rs.map Reach.av)) (hf : Fresh h n) (hfl : fl ≤ n) :
    ∃ v σ', (lim ft (oraOf 10 true)).call (.fn 33 [] []) [.agg [.int .i64 R.days, sl]] ⟨h, n, fl⟩ = some (v, σ') ∧ ∃ h' n' y P C B, v = .ptr (some (y, 0)) ∧ σ' = ⟨h', n', fl⟩ ∧ Year R D n sl h h' n' y P C B := by
  obtain ⟨a, c, e, ck, rfl⟩ := hs.shape (List.length_map _)
  have f1 : Fresh (h.put n (some (.cells [.int .i64 R.days, .slc a R.rs.length c e ck] false))) (n + 1) := hf.put (by omega) (by omega)
  have hs1 := hs.put (o := some (.cells [.int .i64 R.days, .slc a R.rs.length c e ck] false)) hf (Nat.le_refl _)
  obtain ⟨v, σ1, e1, h1, n1, P, pb, rb, rfl, rfl, hny⟩ := newYear_call (fl := fl) hd hv hs1 f1 (by omega)
  have hb : ∀ b, blkOf (.slc a R.rs.length c e ck) = some b → b < n := fun b hb => by
    have hl := hv.l1
    obtain ⟨a2, c2, e2, ck2, he, hl2⟩ := hs
    have ha : a = a2 := by injection he
    subst ha
    have hx : (R.rs.map Reach.av)[0]? = some (Reach.av R.rs[0]) := by rw [List.getElem?_map, List.getElem?_eq_getElem (by omega)]; rfl
    obtain ⟨b', o', rfl, hld⟩ := hl2 0 _ hx
    cases hb
    exact load_lt hf hld
  have hs2 : SlV h1 8 (some 8) (.slc a R.rs.length c e ck) (R.rs.map Reach.av) := hs1.keep fun b hb' => hny.agree b (by have := hb b hb'; omega)
  obtain ⟨v2, σ2, e2, h2, n2, C, B, rfl, hyr⟩ := run_call (fl := fl) hd hv hs2 (fun b hb' => by have := hb b hb'; omega) (by omega) hny
  refine call_done rfl (by rfl) rfl rfl fun S hS => ?_
  simp -implicitDefEqProofs only [a33, ev0, ev1, ev2, ev3, ev4, ev5, ev6, ev7, evx, if_true, if_false, Nat.reduceEqDiff, Nat.reduceAdd, Nat.reduceMul, Nat.reduceSub, ↓reduceIte, reduceCtorEq, Nat.reduceLeDiff, Nat.reduceLT, Int.reduceLE, Int.reduceLT, Int.reduceEq, Int.reduceNeg, Int.reduceToNat, e1, e2]
  refine hS _ _ _ (.ptr (some (n + 1 + 3, 0))) (by simp) (by simp -implicitDefEqProofs only [a33, ev0, ev1, ev2, ev3, ev4, ev5, ev6, ev7, evx, if_true, if_false, Nat.reduceEqDiff, Nat.reduceAdd, Nat.reduceMul, Nat.reduceSub, ↓reduceIte, reduceCtorEq, Nat.reduceLeDiff, Nat.reduceLT, Int.reduceLE, Int.reduceLT, Int.reduceEq, Int.reduceNeg, Int.reduceToNat]) ⟨h2, n2, n + 1 + 3, P, C, B, rfl, rfl, ?_⟩
  have := hyr.le
  exact ⟨by omega, by omega, hyr.fresh, fun b hb' => by rw [hyr.frame b (by omega), hny.agree b (by omega), hget_ne (by omega)], hyr.year, hyr.com, hyr.boom⟩

theorem most_call {R : River} {D d : Nat} (hd : R.days = (D : Int)) (hv : Valid R) (hr : RivAt h v R) (hf : Fresh h n) (h1 : 1 ≤ d) (h2 : d ≤ D) :
    (lim ft (oraOf 10 true)).call (.fn 13 [] []) [v, .int .i64 (d : Int)] ⟨h, n, fl⟩ = some (.tup [.int .i64 (bom R d), .int .i64 0], ⟨h, n, fl⟩) := by
  obtain ⟨sl, rfl, hs⟩ := id hr
  obtain ⟨a, c, e, ck, rfl⟩ := hs.shape (List.length_map _)
  have hd2 := hv.d2
  have f1 : Fresh (h.put n (some (.cells [.int .i64 R.days, .slc a R.rs.length c e ck] false))) (n + 1) := hf.put (by omega) (by omega)
  have f2 := f1.put (b := n + 1) (o := some (.cells [.int .i64 (d : Int)] false)) (n' := n + 2) (by omega) (by omega)
  have hs1 := hs.put (o := some (.cells [.int .i64 R.days, .slc a R.rs.length c e ck] false)) hf (Nat.le_refl _)
  have hs2 := hs1.put (o := some (.cells [.int .i64 (d : Int)] false)) f1 (Nat.le_refl _)
  have hsl : SlI ((h.put n (some (.cells [.int .i64 R.days, .slc a R.rs.length c e ck] false))).put (n + 1) (some (.cells [.int .i64 (d : Int)] false))) (.slc (some (n + 1, 0)) 1 1 2 .exact) [(d : Int)] := SlV.block1 (xs := [.int .i64 (d : Int)]) (ro := false) hget_eq
  have c1 := chk36_call (n := n + 2) (fl := n) (v := .agg [.int .i64 R.days, .slc a R.rs.length c e ck]) ⟨_, rfl, hs2⟩ f2 hv hsl (by simp) (by simp [inB]; omega)
  obtain ⟨v1, σ1, e1, h3, n3, y, P, C, B, rfl, rfl, hy⟩ := early_call (n := n + 2) (fl := n) hd hv hs2 f2 (by omega)
  obtain ⟨bb, ck2, rfl, hbb⟩ := hy.boom.shape (by omega)
  have hg : (ints ((List.range (D + 1)).map (bom R)))[d]? = some (.int .i64 (bom R d)) := ints_i (by rw [List.getElem?_map, List.getElem?_range (by omega)]; rfl)
  have hlt : d < D + 1 := by omega
  refine pure_call rfl (by rfl) rfl rfl rfl ?_
  simp -implicitDefEqProofs only [a13, ev0, ev1, ev2, ev3, ev4, ev5, ev6, ev7, evx, if_true, if_false, Nat.reduceEqDiff, Nat.reduceAdd, Nat.reduceMul, Nat.reduceSub, ↓reduceIte, reduceCtorEq, Nat.reduceLeDiff, Nat.reduceLT, Int.reduceLE, Int.reduceLT, Int.reduceEq, Int.reduceNeg, Int.reduceToNat, c1, e1, hy.year, yc4, hbb, hg, hlt]
end
end Go.AM
/- A river with another reach, in memory. -/
namespace Go.AM
open Go
noncomputable section
variable {tm tm' : T AV} {σ σ' : AS} {h h' : T AObj} {n n' fl : Nat} {v : AV} {sl P C B : AV} {g : List Int}

def cellsOf (rs : List Reach) : List AV := rs.flatMap Reach.cl
theorem cl_len (r : Reach) : r.cl.length = 8 := rfl
theorem cl_all (r : Reach) : r.cl.all AV.scalar = true := rfl
theorem rc_len : ∀ rs : List Reach, (cellsOf rs).length = rs.length * 8
  | [] => rfl
  | r :: rs => by
    show (r.cl ++ cellsOf rs).length = _
    rw [List.length_append, rc_len rs, cl_len, List.length_cons, Nat.add_mul]; omega
theorem rc_all : ∀ rs : List Reach, (cellsOf rs).all AV.scalar = true
  | [] => rfl
  | r :: rs => by
    show (r.cl ++ cellsOf rs).all AV.scalar = true
    rw [List.all_append, cl_all, rc_all rs]; rfl
theorem rc_rd : ∀ {rs : List Reach} {i : Nat} {r : Reach}, rs[i]? = some r → rd (cellsOf rs) (i * 8) 8 = some r.cl
  | [], _, _, h => by simp at h
  | x :: rs, 0, r, h => by
    simp at h; subst h
    rw [rd_E]
    show (bif decide (0 * 8 + 8 ≤ (x.cl ++ cellsOf rs).length) then some (((x.cl ++ cellsOf rs).drop (0 * 8)).take 8) else none) = _
    rw [List.length_append, cl_len]
    simp [Reach.cl]
  | x :: rs, i + 1, r, h => by
    have ih := rc_rd (rs := rs) (i := i) (r := r) (by simpa using h)
    rw [rd_E] at ih ⊢
    show (bif decide ((i + 1) * 8 + 8 ≤ (x.cl ++ cellsOf rs).length) then some (((x.cl ++ cellsOf rs).drop ((i + 1) * 8)).take 8) else none) = _
    have e : (x.cl ++ cellsOf rs).drop ((i + 1) * 8) = (cellsOf rs).drop (i * 8) := by
      rw [show (i + 1) * 8 = x.cl.length + i * 8 by rw [cl_len]; omega, List.drop_append, List.drop_eq_nil_of_le (by omega), Nat.add_sub_cancel_left]; rfl
    rw [e, List.length_append, cl_len]
    by_cases c : i * 8 + 8 ≤ (cellsOf rs).length
    · simp only [c, decide_true, cond_true] at ih
      simp only [show (i + 1) * 8 + 8 ≤ 8 + (cellsOf rs).length by omega, decide_true, cond_true]; exact ih
    · simp [c] at ih
theorem rc_set : ∀ {rs : List Reach} {i : Nat} {x : Reach}, i < rs.length → wr (cellsOf rs) (i * 8) x.cl = cellsOf (rs.set i x)
  | [], _, _, h => by simp at h
  | y :: rs, 0, x, _ => by
    show wr (y.cl ++ cellsOf rs) (0 * 8) x.cl = x.cl ++ cellsOf rs
    unfold wr
    simp [Reach.cl]
  | y :: rs, i + 1, x, h => by
    have ih := rc_set (rs := rs) (i := i) (x := x) (by simpa using h)
    show wr (y.cl ++ cellsOf rs) ((i + 1) * 8) x.cl = y.cl ++ cellsOf (rs.set i x)
    rw [← ih]
    unfold wr
    have e1 : (y.cl ++ cellsOf rs).take ((i + 1) * 8) = y.cl ++ (cellsOf rs).take (i * 8) := by
      rw [show (i + 1) * 8 = y.cl.length + i * 8 by rw [cl_len]; omega, List.take_append, List.take_of_length_le (by omega), Nat.add_sub_cancel_left]
    have e2 : (y.cl ++ cellsOf rs).drop ((i + 1) * 8 + x.cl.length) = (cellsOf rs).drop (i * 8 + x.cl.length) := by
      rw [show (i + 1) * 8 + x.cl.length = y.cl.length + (i * 8 + x.cl.length) by rw [cl_len, cl_len]; omega, List.drop_append, List.drop_eq_nil_of_le (by omega), Nat.add_sub_cancel_left]; rfl
    rw [e1, e2, List.append_assoc]
theorem SlV.flat {b e c : Nat} {ck : CK} {rs : List Reach} {ro : Bool} (hg : h.get b = some (.cells (cellsOf rs) ro)) : SlV h 8 (some 8) (.slc (some (b, 0)) rs.length c e ck) (rs.map Reach.av) := by
  refine ⟨some (b, 0), c, e, ck, by rw [List.length_map], fun i x hx => ⟨b, 0, rfl, fun n fl => ?_⟩⟩
  rw [List.getElem?_map] at hx
  cases hr : rs[i]? with
  | none => rw [hr] at hx; cases hx
  | some r =>
    rw [hr] at hx; cases hx
    rw [ldN, hg, rdk_s, Nat.zero_add, rc_rd hr]; rfl
/-- A whole list of reaches, read at once. -/
theorem rd_join {c : List AV} : ∀ {rs : List Reach} {o : Nat}, o ≤ c.length → (∀ i r, rs[i]? = some r → rd c (o + i * 8) 8 = some r.cl) → rd c o (rs.length * 8) = some (cellsOf rs)
  | [], o, ho, _ => by
    rw [rd_E]
    show (bif decide (o + 0 * 8 ≤ c.length) then _ else _) = _
    simp [ho]; rfl
  | r :: rs, o, ho, h => by
    have h0 := h 0 r rfl
    rw [Nat.zero_mul, Nat.add_zero, rd_E] at h0
    by_cases c1 : o + 8 ≤ c.length
    · simp only [c1, decide_true, cond_true, Option.some.injEq] at h0
      have ih := rd_join (c := c) (rs := rs) (o := o + 8) c1 fun i x hx => by
        have := h (i + 1) x (by simpa using hx)
        rw [show o + 8 + i * 8 = o + (i + 1) * 8 by omega]; exact this
      rw [rd_E] at ih ⊢
      by_cases c2 : o + 8 + rs.length * 8 ≤ c.length
      · simp only [c2, decide_true, cond_true, Option.some.injEq] at ih
        rw [List.length_cons]
        simp only [show o + (rs.length + 1) * 8 ≤ c.length by omega, decide_true, cond_true, Option.some.injEq]
        show _ = r.cl ++ cellsOf rs
        rw [← h0, ← ih, show (rs.length + 1) * 8 = 8 + rs.length * 8 by omega, List.take_add, List.drop_drop]
      · simp [c2] at ih
    · simp [c1] at h0
theorem SlV.whole {rs : List Reach} (hs : SlV h 8 (some 8) v (rs.map Reach.av)) (hl : 0 < rs.length) : ∃ b o c e ck, v = .slc (some (b, o)) rs.length c e ck ∧ rdk (h.get b) o (rs.length * 8) = some (cellsOf rs) := by
  obtain ⟨a, c, e, ck, rfl, hld⟩ := hs
  have hx : (rs.map Reach.av)[0]? = some (Reach.av rs[0]) := by rw [List.getElem?_map, List.getElem?_eq_getElem hl]; rfl
  obtain ⟨b, o, rfl, h0⟩ := hld 0 _ hx
  refine ⟨b, o, c, e, ck, by rw [List.length_map], ?_⟩
  have hcl : ∀ i r, rs[i]? = some r → rdk (h.get b) (o + i * 8) 8 = some r.cl := fun i r hr => by
    obtain ⟨b', o', e', h1⟩ := hld i (Reach.av r) (by rw [List.getElem?_map, hr]; rfl)
    cases e'
    have h2 := h1 0 0
    rw [ldN] at h2
    cases e3 : rdk (h.get b) (o + i * 8) 8 with
    | none => rw [e3] at h2; cases h2
    | some y => rw [e3] at h2; cases h2; rfl
  cases hg : h.get b with
  | none => have := hcl 0 _ (List.getElem?_eq_getElem hl); rw [hg] at this; cases this
  | some ob =>
    cases ob with
    | map _ _ => have := hcl 0 _ (List.getElem?_eq_getElem hl); rw [hg] at this; cases this
    | loop _ => have := hcl 0 _ (List.getElem?_eq_getElem hl); rw [hg] at this; cases this
    | cells cs ro =>
      simp only [hg, rdk_s] at hcl ⊢
      refine rd_join ?_ hcl
      have := hcl 0 _ (List.getElem?_eq_getElem hl)
      rw [rd_E] at this
      by_cases c2 : o + 0 * 8 + 8 ≤ cs.length
      · omega
      · simp [c2] at this

theorem changed_call {R : River} {i : Nat} {x : Reach} (hv : Valid R) (hr : RivAt h v R) (hf : Fresh h n) (hfl : fl ≤ n) (hi : i < R.rs.length) :
    ∃ w σ', (lim ft (oraOf 10 true)).call (.fn 20 [] []) [v, .int .i64 (i : Int), x.av] ⟨h, n, fl⟩ = some (w, σ') ∧ ∃ h' n', σ' = ⟨h', n', fl⟩ ∧ n ≤ n' ∧ Fresh h' n' ∧ Agree n h h' ∧ RivAt h' w (R.set i x) ∧ ∀ d sl b, w = .agg [d, sl] → blkOf sl = some b → n ≤ b := by
  obtain ⟨sl, rfl, hs⟩ := id hr
  have hl8 := hv.l2
  obtain ⟨sb, o, c, e, ck, rfl, hw⟩ := hs.whole (by omega)
  have hsb : sb < n := by
    cases eg : h.get sb with
    | none => rw [eg] at hw; cases hw
    | some ob => exact hf _ _ eg
  have f1 : Fresh (((h.put n (some (.cells [.int .i64 R.days, .slc (some (sb, o)) R.rs.length c e ck] false))).put (n + 1) (some (.cells x.cl false))).put (n + 2) (some (.cells [.int .i64 0, .slc none 0 0 31 .exact] false))) (n + 3) :=
    ((hf.put (n' := n + 1) (by omega) (by omega)).put (n' := n + 2) (by omega) (by omega)).put (by omega) (by omega)
  have g0 : GrowSl ((((h.put n (some (.cells [.int .i64 R.days, .slc (some (sb, o)) R.rs.length c e ck] false))).put (n + 1) (some (.cells x.cl false))).put (n + 2) (some (.cells [.int .i64 0, .slc none 0 0 31 .exact] false))).put (n + 3) (some (.cells [] false))) 31 8 (.slc (some (n + 3, 0)) 0 0 31 .exact) 0 [] :=
    ⟨.inr ⟨n + 3, .exact, rfl, by simp, hget_eq⟩, rfl, rfl⟩
  have f2 := f1.put (b := n + 3) (o := some (.cells [] false)) (n' := n + 5) (by omega) (by omega)
  obtain ⟨h2, ea, eg, ef, ek⟩ := g0.append (fl := fl) (bytes := 64) (k := R.rs.length) (bx := sb) (ox := o) (c := c) (e := e) (ck := ck) (new := cellsOf R.rs) (fun b hb => by cases hb; omega) f2
    (by rw [hget_ne (by omega), hget_ne (by omega), hget_ne (by omega), hget_ne (by omega)]; exact hw) (by have := hv.l1; omega) (by omega) (rc_len _) (rc_all _)
  have q1 : h2.get n = some (.cells [.int .i64 R.days, .slc (some (sb, o)) R.rs.length c e ck] false) := by rw [ek _ (by omega) (fun e => by injection e with e; omega), hget_ne (by omega), hget_ne (by omega), hget_ne (by omega), hget_eq]
  have q2 : h2.get (n + 1) = some (.cells x.cl false) := by rw [ek _ (by omega) (fun e => by injection e with e; omega), hget_ne (by omega), hget_ne (by omega), hget_eq]
  have q3 : h2.get (n + 2) = some (.cells [.int .i64 0, .slc none 0 0 31 .exact] false) := by rw [ek _ (by omega) (fun e => by injection e with e; omega), hget_ne (by omega), hget_eq]
  obtain ⟨b4, ck4, e4, q4⟩ := eg.shape (by have := hv.l1; omega)
  have hb4 : b4 = n + 5 := by injection e4 with h1; injection h1 with h1; injection h1 with h1; omega
  subst hb4
  have hset := rc_set (x := x) hi
  have hi2 : i < 0 + R.rs.length := by omega
  have fl0 : ∀ k, fl ≤ n + k := fun k => by omega
  have hlen2 : i * 8 + 8 ≤ R.rs.length * 8 := by omega
  have hrl := rc_len R.rs
  have n1 : ∀ k : Nat, (n = n + (k + 1)) = False := fun k => by simp
  refine call_done rfl (by rfl) rfl rfl fun S hS => ?_
  have hlen3 : (cellsOf R.rs).length = R.rs.length * 8 := hrl
  have q4' : h2.get (n + 5) = some (.cells (cellsOf R.rs) false) := by simpa using q4
  simp only [Reach.cl] at ea q2 hset
  have fl5 : fl ≤ n + 5 := by omega
  have fl4 : fl ≤ n + 4 := by omega
  have fl2 : fl ≤ n + 2 := by omega
  have hz : 0 + R.rs.length = R.rs.length := Nat.zero_add _
  simp -implicitDefEqProofs only [Reach.av, a20, ev0, ev1, ev2, ev3, ev4, ev5, ev6, ev7, evx, if_true, if_false, Nat.reduceEqDiff, Nat.reduceAdd, Nat.reduceMul, Nat.reduceSub, ↓reduceIte, reduceCtorEq, Nat.reduceLeDiff, Nat.reduceLT, Int.reduceLE, Int.reduceLT, Int.reduceEq, Int.reduceNeg, Int.reduceToNat, ea, q1, q2, q3, q4', hi, fl5, fl4, fl2, hlen3, hlen2, hset, reC_i]
  have hfx : Fresh (((h2.put (n + 4) (some (.cells [.int .i64 R.days, .slc (some (n + 5, 0)) R.rs.length R.rs.length 31 .tail] false))).put (n + 5) (some (.cells (cellsOf (R.rs.set i x)) false))).put (n + 2) (some (.cells [.int .i64 R.days, .slc (some (n + 5, 0)) R.rs.length R.rs.length 31 .tail] false))) (n + 6) :=
    ((ef.put (n' := n + 6) (by omega) (by omega)).put (n' := n + 6) (by omega) (by omega)).put (by omega) (by omega)
  refine hS _ _ _ (.agg [.int .i64 R.days, .slc (some (n + 5, 0)) R.rs.length R.rs.length 31 .tail]) (by simp) (by simp -implicitDefEqProofs only [a20, ev0, ev1, ev2, ev3, ev4, ev5, ev6, ev7, evx, if_true, if_false, Nat.reduceEqDiff, Nat.reduceAdd, Nat.reduceMul, Nat.reduceSub, ↓reduceIte, reduceCtorEq, Nat.reduceLeDiff, Nat.reduceLT, Int.reduceLE, Int.reduceLT, Int.reduceEq, Int.reduceNeg, Int.reduceToNat]) ⟨_, n + 6, rfl, by omega, hfx, fun b hb => ?_, ⟨_, rfl, ?_⟩, fun d sl b e1 e2 => by injection e1 with e1; injection e1 with _ e1; injection e1 with e1; subst e1; cases e2; omega⟩
  · rw [hget_ne (by omega), hget_ne (by omega), hget_ne (by omega), ek _ (by omega) (fun e => by injection e with e; omega), hget_ne (by omega), hget_ne (by omega), hget_ne (by omega), hget_ne (by omega)]
  · have := SlV.flat (h := ((h2.put (n + 4) (some (.cells [.int .i64 R.days, .slc (some (n + 5, 0)) R.rs.length R.rs.length 31 .tail] false))).put (n + 5) (some (.cells (cellsOf (R.rs.set i x)) false))).put (n + 2) (some (.cells [.int .i64 R.days, .slc (some (n + 5, 0)) R.rs.length R.rs.length 31 .tail] false)))
      (rs := R.rs.set i x) (b := n + 5) (e := 31) (c := R.rs.length) (ck := .tail) (ro := false) (by rw [hget_ne (by omega), hget_eq])
    rw [List.length_set] at this
    exact this
end
end Go.AM
