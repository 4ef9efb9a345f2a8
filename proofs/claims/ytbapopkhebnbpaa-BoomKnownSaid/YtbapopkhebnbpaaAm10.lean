/- What reads memory; what makes memory. -/
import Derived.Test.YtbapopkhebnbpaaAm9
namespace Go.AM
open Go

variable {P : Program} {f : FM} {tm : T AV} {σ σ' : AS} {w w' : World} {a : Act} {v : AV} {o : Oper}

theorem sz_cases {t : Nat} {s : Sz} (hs : okSz P t s = true) : (∃ i, P.info? t = some i ∧ s = some i.size ∧ ∀ w, (isAgg t).run P w = .ok true w) ∨ (s = none ∧ ∀ w, (isAgg t).run P w = .ok false w) := by
  unfold okSz at hs
  split at hs
  · rename_i fs i hu hi
    exact .inl ⟨i, hi, by simpa using hs, fun w => by simp [isAgg, run_underlying' hu]⟩
  · rename_i n e i hu hi
    exact .inl ⟨i, hi, by simpa using hs, fun w => by simp [isAgg, run_underlying' hu]⟩
  · rename_i d i h1 h2 hu hi
    refine .inr ⟨by simpa using hs, fun w => ?_⟩
    simp only [isAgg, Sem.run_bind, run_underlying' hu, Result.andThen_ok]
    cases d <;> first | rfl | (exfalso; first | exact h1 _ hu | exact h2 _ _ hu)
  · cases hs

theorem cells_home (h : Rel P f σ w) {b : Nat} {c : List AV} (hc : σ.cellsOf b = some c) : ∃ ro rb off rs rc et fr, σ.heap.get b = some (.cells c ro) ∧ f b = some (rb, off, rs) ∧ w.heap[rb]? = some (.cells rc et fr) ∧ rc.size = rs ∧ off + c.length ≤ rs ∧ CellsR P f c rc off ∧ (ro = false → fr.1 = fr.2 ∨ rs ≤ fr.1) := by
  unfold AS.cellsOf at hc
  split at hc
  · rename_i c' ro hg
    cases hc
    obtain ⟨rb, off, rs, rc, et, fr, h1, h2, h3, h4, h5, h6⟩ := h.obj b _ hg
    exact ⟨ro, rb, off, rs, rc, et, fr, hg, h1, h2, h3, h4, h5, h6⟩
  · cases hc

theorem cell_row {rb i : Nat} {rc : Array Value} {et : Nat} {fr : Nat × Nat} (h : w.heap[rb]? = some (.cells rc et fr)) : w.cell? ⟨rb, i, none⟩ = rc[i]? := by
  simp [World.cell?, h]
theorem frozen_row {rb i : Nat} {rc : Array Value} {et : Nat} {fr : Nat × Nat} (h : w.heap[rb]? = some (.cells rc et fr)) : w.frozen? ⟨rb, i, none⟩ = decide (fr.1 ≤ i ∧ i < fr.2) := by
  obtain ⟨l, r⟩ := fr
  simp [World.frozen?, h]

theorem read1_sound (h : Rel P f σ w) {b q : Nat} (hr : σ.read1 b q = some v) {rb off rs : Nat} (hf : f b = some (rb, off, rs)) : v.scalar = true ∧ ∃ rv, w.cell? ⟨rb, off + q, none⟩ = some rv ∧ VR P f v rv := by
  unfold AS.read1 at hr
  obtain ⟨c, h1, h2⟩ := bind_some hr
  obtain ⟨ro, rb', off', rs', rc, et, fr, g1, g2, g3, g4, g5, g6, g7⟩ := cells_home h h1
  rw [hf] at g2; cases g2
  obtain ⟨k1, rv, k2, k3⟩ := g6 q v h2
  exact ⟨k1, rv, by rw [cell_row g3]; exact k2, k3⟩

theorem readN_sound (h : Rel P f σ w) {b q n : Nat} {l : List AV} (hr : σ.readN b q n = some l) {rb off rs : Nat} (hf : f b = some (rb, off, rs)) :
    l.length = n ∧ l.all AV.scalar = true ∧ off + q + n ≤ rs ∧ ∃ rl : List Value, VRs P f l rl ∧ ∀ (j : Nat) v, rl[j]? = some v → w.cell? ((⟨rb, off + q, none⟩ : Addr).add j) = some v := by
  unfold AS.readN at hr
  obtain ⟨c, h1, h2⟩ := bind_some hr
  obtain ⟨ro, rb', off', rs', rc, et, fr, g1, g2, g3, g4, g5, g6, g7⟩ := cells_home h h1
  rw [hf] at g2; cases g2
  unfold rd at h2
  cases hb : Nat.ble (q + n) c.length with
  | false => simp [hb] at h2
  | true =>
    simp [hb] at h2; subst h2
    have hle := Nat.le_of_ble_eq_true hb
    have hget : ∀ (j : Nat) x, ((c.drop q).take n)[j]? = some x → j < n ∧ c[q + j]? = some x := fun j x hx => by
      rw [List.getElem?_take] at hx
      split at hx
      · rename_i hj; rw [List.getElem?_drop] at hx; exact ⟨hj, hx⟩
      · cases hx
    refine ⟨by simp; omega, ?_, by omega, ?_⟩
    · rw [List.all_eq_true]
      intro x hx
      obtain ⟨j, hj⟩ := List.getElem?_of_mem hx
      exact (g6 _ _ (hget j x hj).2).1
    · refine ⟨((rc.toList.drop (off + q)).take n), VRs.of_get (by simp; omega) (fun j x hx => ?_), fun j x hx => ?_⟩
      · obtain ⟨hj, hx⟩ := hget j x hx
        obtain ⟨_, rv, k2, k3⟩ := g6 _ _ hx
        refine ⟨rv, ?_, k3⟩
        rw [List.getElem?_take, if_pos hj, List.getElem?_drop]
        rw [← Nat.add_assoc] at k2
        simpa using k2
      · rw [List.getElem?_take] at hx
        split at hx
        · rw [List.getElem?_drop] at hx
          rw [addr_add, cell_row g3]
          simpa using hx
        · cases hx

theorem run_loadVar {t : Nat} {s : Sz} (hs : okSz P t s = true) (h : Rel P f σ w) {x : AV} {y : Value} (hx : VR P f x y) (hv : loadV σ s x = some v) : ∃ ad rv, y = .pointer (some ad) ∧ (loadVar t ad).run P w = .ok rv w ∧ VR P f v rv := by
  unfold loadV at hv
  split at hv
  · rename_i b q
    simp only [VR] at hx
    obtain ⟨rb, off, rs, hf, hy⟩ := hx
    obtain ⟨_, rv, h1, h2⟩ := read1_sound h hv hf
    refine ⟨_, rv, hy, ?_, h2⟩
    rcases sz_cases hs with ⟨i, hi, he, hag⟩ | ⟨_, hag⟩
    · cases he
    · simp [loadVar, hag, h1]
  · rename_i b q n
    simp only [VR] at hx
    obtain ⟨rb, off, rs, hf, hy⟩ := hx
    obtain ⟨l, h1, h2⟩ := map_some hv
    subst h2
    obtain ⟨k1, _, _, rl, k2, k3⟩ := readN_sound h h1 hf
    refine ⟨_, .agg rl.toArray, hy, ?_, by simp only [VR]; exact ⟨_, rfl, by simpa using k2⟩⟩
    rcases sz_cases hs with ⟨i, hi, he, hag⟩ | ⟨he, _⟩
    · cases he
      have hl : rl.length = i.size := by rw [k2.length, k1]
      simp only [loadVar, Sem.run_bind, hag, Result.andThen_ok, if_true, run_sizeOf' hi, Sem.run_map, ← hl, run_loadCells_list w _ rl k3]
      simp [Sem.run_bind]
    · cases he
  · cases hv

/-- What reads memory: the answer, the world left as it is. -/
def ReadOK (P : Program) (f : FM) (o : Oper) (a : Act) (v : AV) (w : World) : Prop := ∃ rv, VR P f v rv ∧ (execOp a.eval o).run P w = .ok (.value rv) w

theorem r_load {s : Sz} {x : AOpd} (h : Rel P f σ w) (hok : ok_load P s x o.op = true) (ha : TR P f tm a.tmps) (hv : op_load s x tm σ = some (v, σ')) : σ' = σ ∧ ReadOK P f o a v w := by
  unfold ok_load at hok
  split at hok
  · rename_i t y ho
    simp only [Bool.and_eq_true] at hok
    obtain ⟨u, h1, h2⟩ := bind_some hv
    obtain ⟨r, h3, h4⟩ := map_some h2
    cases h4
    obtain ⟨ad, rv, k1, k2, k3⟩ := run_loadVar hok.2 h (opd_sound hok.1 ha h1) h3
    refine ⟨rfl, rv, k3, ?_⟩
    simp [execOp, ho, Instr.loadAt, k1, Instr.sureAddr, k2]
  · cases hok

/-! Keys of a map. -/
theorem keyEq_sound {kn kt : Nat} (ht : okKey P kn kt = true) {k q : AV} (hk : keyOK kn k = true) {t : Bool} (h : keyEq k q = some t) {rk rq : Value} (h1 : VR P f k rk) (h2 : VR P f q rq) :
    (∀ w, (Op.equal kt rk rq).run P w = .ok t w) ∧ (∀ j x y, k = .int j x → q = .int j y → t = decide (x = y)) := by
  unfold keyEq at h
  split at h
  · rename_i j x j' y
    cases hkk : kEq j j' with
    | false => simp [hkk] at h
    | true =>
      have := kEq_iff.1 hkk; subst this
      simp [hkk] at h; subst h
      simp only [VR] at h1 h2
      subst h1; subst h2
      refine ⟨fun w => ?_, fun j2 a b e1 e2 => by cases e1; cases e2; rfl⟩
      unfold okKey at ht
      split at ht
      · rename_i k' hu
        show (Op.equalIn (9999 + 1) kt (.int j x) (.int j y)).run P w = _
        rw [equalIn_int 9999 hu]
        congr 1
      · simp only [Bool.and_eq_true] at ht
        simp [keyOK] at hk
        have := ht.2
        simp [hk] at this
      · cases ht
  · rename_i l r
    cases hkk : sameKinds l r with
    | false => simp [hkk] at h
    | true =>
      simp [hkk] at h
      simp only [VR] at h1 h2
      obtain ⟨cp, rfl, h1⟩ := h1
      obtain ⟨cq, rfl, h2⟩ := h2
      simp only [keyOK, Bool.and_eq_true] at hk
      refine ⟨fun w => ?_, fun j2 a b e1 e2 => by cases e1⟩
      unfold okKey at ht
      split at ht
      · have := Nat.eq_of_beq_eq_true ht
        subst this
        simp at hk
      · rename_i fs hu
        simp only [Bool.and_eq_true] at ht
        refine equal_sound hkk h1 h2 (n := kn) ?_ (Nat.eq_of_beq_eq_true hk.1) h w
        unfold okFlat
        rw [hu]
        simp only [Bool.and_eq_true]
        exact ⟨⟨ht.1.1.1, ht.1.1.2⟩, ht.1.2⟩
      · cases ht
  · cases h

/-- What a search among the entries finds, the first of which is numbered so. -/
def Hit (P : Program) (f : FM) (k : AV) (es : List (AV × AV × Nat)) (i : Nat) (r : Option (Nat × AV × Nat)) (rr : Option (Nat × Value)) : Prop :=
  match r, rr with
  | none, none => True
  | some (j, v, s), some (j', rv) => j' = j ∧ VR P f v rv ∧ i ≤ j ∧ ∃ q, es[j - i]? = some (q, v, s) ∧ keyEq k q = some true
  | _, _ => False
theorem Hit.shift {k : AV} {es : List (AV × AV × Nat)} {i : Nat} {r rr} (x : AV × AV × Nat) (h : Hit P f k es (i + 1) r rr) : Hit P f k (x :: es) i r rr := by
  unfold Hit at h ⊢
  split at h
  · trivial
  · rename_i j v s j' rv
    obtain ⟨k1, k2, k3, q, k4, k5⟩ := h
    refine ⟨k1, k2, by omega, q, ?_, k5⟩
    rw [show j - i = (j - (i + 1)) + 1 by omega]
    simpa using k4
  · exact h

theorem findAsking_sound {kn kt : Nat} (ht : okKey P kn kt = true) {k : AV} {rk : Value} (hk : keyOK kn k = true) (h1 : VR P f k rk) : ∀ {es : List (AV × AV × Nat)} {rs : List MapEntry} {i : Nat} {r}, EsR P f es rs → findK k es i = some r → ∀ w,
    ∃ rr, (Instr.findAsking kt rk rs i).run P w = .ok rr w ∧ Hit P f k es i r rr
  | [], [], i, r, _, h, w => by simp [findK] at h; subst h; exact ⟨none, rfl, trivial⟩
  | [], _ :: _, _, _, h, _, _ => by have := h.1; simp at this
  | _ :: _, [], _, _, h, _, _ => by have := h.1; simp at this
  | (q, v, s) :: es, e :: rs, i, r, he, h, w => by
    obtain ⟨e', g1, g2, g3, g4⟩ := he.2 0 q v s rfl
    simp at g1; subst g1
    have he' : EsR P f es rs := ⟨by simpa using he.1, fun j a b c hj => by simpa using he.2 (j + 1) a b c (by simpa using hj)⟩
    simp only [findK] at h
    split at h
    · rename_i hq
      cases h
      exact ⟨some (i, e.val), by simp [Instr.findAsking, (keyEq_sound ht hk hq h1 g2).1], rfl, g3, Nat.le_refl _, q, by simp, hq⟩
    · rename_i hq
      obtain ⟨rr, ih1, ih2⟩ := findAsking_sound ht hk h1 he' h w
      exact ⟨rr, by simp [Instr.findAsking, (keyEq_sound ht hk hq h1 g2).1, ih1], ih2.shift _⟩
    · cases h

theorem findNow_sound {kk jj : IntKind} {x : Int} : ∀ {es : List (AV × AV × Nat)} {rs : List MapEntry} {i : Nat} {r}, EsR P f es rs → findK (.int jj x) es i = some r →
    ∃ rr, Instr.findNow (.int kk) (.int jj x) rs i = some rr ∧ Hit P f (.int jj x) es i r rr
  | [], [], i, r, _, h => by simp [findK] at h; subst h; exact ⟨none, rfl, trivial⟩
  | [], _ :: _, _, _, h, _ => by have := h.1; simp at this
  | _ :: _, [], _, _, h, _ => by have := h.1; simp at this
  | (q, v, s) :: es, e :: rs, i, r, he, h => by
    obtain ⟨e', g1, g2, g3, g4⟩ := he.2 0 q v s rfl
    simp at g1; subst g1
    have he' : EsR P f es rs := ⟨by simpa using he.1, fun j a b c hj => by simpa using he.2 (j + 1) a b c (by simpa using hj)⟩
    have inner : ∀ t, keyEq (.int jj x) q = some t → Instr.sameNow (.int kk) (.int jj x) e.key = some t := fun t hq => by
      cases q <;> simp only [keyEq] at hq <;> first | (cases hq; done) | skip
      rename_i j' y
      cases hkk : kEq jj j' with
      | false => simp [hkk] at hq
      | true =>
        have := kEq_iff.1 hkk; subst this
        simp [hkk] at hq; subst hq
        simp only [VR] at g2
        rw [g2]
        simp only [Instr.sameNow, if_true]
        congr 1
    simp only [findK] at h
    split at h
    · rename_i hq
      cases h
      exact ⟨some (i, e.val), by simp [Instr.findNow, inner _ hq], rfl, g3, Nat.le_refl _, q, by simp, hq⟩
    · rename_i hq
      obtain ⟨rr, ih1, ih2⟩ := findNow_sound (kk := kk) he' h
      exact ⟨rr, by simp [Instr.findNow, inner _ hq, ih1], ih2.shift _⟩
    · cases h

theorem findKey_sound {kn kt : Nat} (ht : okKey P kn kt = true) {k : AV} {rk : Value} (h1 : VR P f k rk) {es : List (AV × AV × Nat)} {rs : List MapEntry} {r} (he : EsR P f es rs) (h : findKk kn k es = some r) (w : World) :
    ∃ rr, (Instr.findKey kt rk rs).run P w = .ok rr w ∧ Hit P f k es 0 r rr := by
  unfold findKk at h
  cases hk : keyOK kn k with
  | false => simp [hk] at h
  | true =>
    simp [hk] at h
    have hu : (∃ kk, P.underlying kt = some (.int kk) ∧ ∃ j x, k = .int j x) ∨ (∃ fs, P.underlying kt = some (.struct fs) ∧ ∃ l, k = .agg l) := by
      unfold okKey at ht
      split at ht
      · rename_i kk hu
        have e := Nat.eq_of_beq_eq_true ht
        subst e
        cases k <;> simp [keyOK] at hk
        exact .inl ⟨kk, hu, _, _, rfl⟩
      · rename_i fs hu
        simp only [Bool.and_eq_true] at ht
        cases k <;> simp [keyOK] at hk
        · have := ht.2; simp [hk] at this
        · exact .inr ⟨fs, hu, _, rfl⟩
      · cases ht
    rcases hu with ⟨kk, hu, j, x, rfl⟩ | ⟨fs, hu, l, rfl⟩
    · simp only [VR] at h1
      subst h1
      obtain ⟨rr, k1, k2⟩ := findNow_sound (kk := kk) he h
      exact ⟨rr, by simp [Instr.findKey, run_underlying' hu, k1], k2⟩
    · obtain ⟨rr, k1, k2⟩ := findAsking_sound ht hk h1 (i := 0) he h w
      refine ⟨rr, ?_, k2⟩
      cases rs with
      | nil =>
        have : rr = none := by
          have e : (Instr.findAsking kt rk ([] : List MapEntry) 0).run P w = .ok none w := rfl
          rw [e] at k1; cases k1; rfl
        subst this
        simp [Instr.findKey, run_underlying' hu, Instr.findNow]
      | cons e0 rs => simpa [Instr.findKey, run_underlying' hu, Instr.findNow, Instr.sameNow] using k1

theorem checkKey_gen {kn kt : Nat} (ht : okKey P kn kt = true) {k : AV} {rk : Value} (hk : keyOK kn k = true) (h1 : VR P f k rk) (b : Bool) (d : Nat) (w : World) : (Instr.checkKey b (d + 2) kt rk).run P w = .ok () w := by
  unfold okKey at ht
  split at ht
  · rename_i kk hu
    have e := Nat.eq_of_beq_eq_true ht
    subst e
    cases k <;> simp [keyOK] at hk
    simp only [VR] at h1; subst h1
    simp only [Instr.checkKey, Sem.run_bind, run_underlying' hu, Result.andThen_ok]
    rfl
  · rename_i fs hu
    simp only [Bool.and_eq_true] at ht
    cases k <;> simp [keyOK] at hk
    · have := ht.2; simp [hk] at this
    · rename_i l
      simp only [VR] at h1
      obtain ⟨cs, rfl, h1⟩ := h1
      have hlen : fs.size = l.length := by rw [hk.1, Nat.eq_of_beq_eq_true ht.1.2]
      have key : ∀ (fl : List Field) (i : Nat), okIntFields P fl i = true → i + fl.length = l.length → ∀ w,
          (forIn fl PUnit.unit fun fd _ => (do
            if fd.name ≠ "_" then do
              let x ← part fd.type cs fd.offset
              Instr.checkKey b (d + 1) fd.type x
              pure (ForInStep.yield PUnit.unit)
            else pure (ForInStep.yield PUnit.unit) : Sem (ForInStep PUnit))).run P w = .ok PUnit.unit w := by
        intro fl
        induction fl with
        | nil => intro i _ _ w; rfl
        | cons fd fl ih =>
          intro i hf hl w
          obtain ⟨⟨g1, kk, g2⟩, g3, g4⟩ := okIntFields_cons hf
          have hi : i < cs.size := by have := h1.length; simp at this hl; omega
          have hx : cs[i]? = some cs[i] := by simp [hi]
          rw [List.forIn_cons]
          have hck : (Instr.checkKey b (d + 1) fd.type cs[i]).run P w = .ok () w := by
            simp only [Instr.checkKey, Sem.run_bind, run_underlying' g2, Result.andThen_ok]
            rfl
          simp only [if_pos g1, Sem.run_bind, g3, run_part_int g2 hx, Result.andThen_ok, hck, Sem.run_pure]
          exact ih (i + 1) g4 (by simp at hl; omega) w
      have := key fs.toList 0 ht.1.1.2 (by simp [hlen]) w
      rw [Instr.checkKey]
      simp only [Sem.run_bind, run_underlying' hu, Result.andThen_ok]
      rw [← Array.forIn_toList]
      simp at this
      simp [this]
  · cases ht
theorem checkKey_sound {kn kt : Nat} (ht : okKey P kn kt = true) {k : AV} {rk : Value} (hk : keyOK kn k = true) (h1 : VR P f k rk) (b : Bool) (w : World) : (Instr.checkKey b 10000 kt rk).run P w = .ok () w :=
  checkKey_gen ht hk h1 b 9998 w

theorem zero1_sound {t : Nat} {zero : AV} (h : okZero1 P t zero = true) : ∃ z, (∀ f, VR P f zero z) ∧ ∀ w, (zeroValue t).run P w = .ok z w := by
  unfold okZero1 at h
  split at h
  · rename_i i hi
    split at h
    · rename_i z hz
      exact ⟨z, fun f => okV.vr _ _ h, fun w => by simp [zeroValue, run_typeInfo' hi, hz]⟩
    · cases h
  · cases h

theorem map_home (h : Rel P f σ w) {b : Nat} {es : List (AV × AV × Nat)} {cl : Nat} (hg : σ.heap.get b = some (.map es cl)) : ∃ rb off rs res, f b = some (rb, off, rs) ∧ w.heap[rb]? = some (.map res cl) ∧ EsR P f es res.toList := h.obj b _ hg
theorem run_getMap {rb : Nat} {res : Array MapEntry} {cl : Nat} (h : w.heap[rb]? = some (.map res cl)) : (getObj rb).run P w = .ok (.map res cl) w := by
  simp [getObj, Sem.run, h]

theorem r_lookup {kn : Nat} {zero : AV} {m k : AOpd} {c : Bool} (h : Rel P f σ w) (hok : ok_lookup P kn zero m k c o.op = true) (ha : TR P f tm a.tmps) (hv : op_lookup kn zero m k c tm σ = some (v, σ')) : σ' = σ ∧ ReadOK P f o a v w := by
  unfold ok_lookup at hok
  split at hok
  · rename_i t y z c' ho
    simp only [Bool.and_eq_true, beq_iff_eq] at hok
    obtain ⟨⟨⟨hy, hz⟩, rfl⟩, ht⟩ := hok
    replace hv := bind_some hv; obtain ⟨um, g1, hv⟩ := hv
    replace hv := bind_some hv; obtain ⟨uk, g2, hv⟩ := hv
    replace hv := map_some hv; obtain ⟨r, g3, g4⟩ := hv
    cases g4
    have hm := opd_sound hy ha g1
    have hk := opd_sound hz ha g2
    refine ⟨rfl, ?_⟩
    unfold okMapT at ht
    split at ht
    · rename_i kt e hu
      simp only [Bool.and_eq_true] at ht
      obtain ⟨z0, hz0, hzr⟩ := zero1_sound ht.2
      have fin : ∀ (res : Array MapEntry) (es : List (AV × AV × Nat)), EsR P f es res.toList → findKk kn uk es = some r → keyOK kn uk = true → (∃ r', a.eval y = .map r' ∧ ((r' = none ∧ res = #[]) ∨ ∃ rb cl, r' = some rb ∧ w.heap[rb]? = some (.map res cl))) → ReadOK P f o a (lookOut zero c r) w := by
        intro res es hes hf hkk hmm
        have hck := fun b w => checkKey_sound (f := f) ht.1 hkk hk b w
        obtain ⟨rr, hfk, hhit⟩ := findKey_sound ht.1 hk hes hf w
        have run : (execOp a.eval o).run P w = .ok (.value (match rr with | some (_, v) => if c then .tuple #[v, .bool true] else v | none => if c then .tuple #[z0, .bool false] else z0)) w := by
          obtain ⟨r', e1, e2⟩ := hmm
          rcases e2 with ⟨rfl, rfl⟩ | ⟨rb, cl, rfl, e3⟩
          · simp only [execOp, ho, Instr.lookup, Sem.run_bind, run_underlying' hu, Result.andThen_ok, e1, Sem.run_pure, hck, hfk]
            cases rr with
            | none => simp [hzr]
            | some x => simp
          · simp only [execOp, ho, Instr.lookup, Sem.run_bind, run_underlying' hu, Result.andThen_ok, e1, Sem.run_pure, run_getMap e3, hck, hfk]
            cases rr with
            | none => simp [hzr]
            | some x => simp
        unfold Hit at hhit
        split at hhit
        · refine ⟨if c then .tuple #[z0, .bool false] else z0, ?_, ?_⟩
          · cases c
            · exact hz0 f
            · simp [lookOut, VR, VRs, hz0 f]
          · exact run
        · rename_i j v0 s0 j' rv
          obtain ⟨rfl, k2, _⟩ := hhit
          refine ⟨if c then .tuple #[rv, .bool true] else rv, ?_, ?_⟩
          · cases c
            · exact k2
            · simp [lookOut, VR, VRs, k2]
          · exact run
        · exact hhit.elim
      unfold lookIn at g3
      split at g3
      · cases hkk : keyOK kn uk with
        | false => simp [hkk] at g3
        | true =>
          simp [hkk] at g3; subst g3
          simp only [VR] at hm
          exact fin #[] [] ⟨rfl, fun i => by simp⟩ (by simp [findKk, hkk, findK]) hkk ⟨none, hm, .inl ⟨rfl, rfl⟩⟩
      · rename_i b
        split at g3
        · rename_i es cl hg
          simp only [VR] at hm
          obtain ⟨rb, off, rs, hf, hm⟩ := hm
          obtain ⟨rb', off', rs', res, k1, k2, k3⟩ := map_home h hg
          rw [hf] at k1; cases k1
          have hkk : keyOK kn uk = true := by
            cases hkk : keyOK kn uk with
            | true => rfl
            | false => simp [findKk, hkk] at g3
          exact fin res es k3 g3 hkk ⟨_, hm, .inr ⟨rb, cl, rfl, k2⟩⟩
        · cases g3
      · cases g3
    · cases ht
  · cases hok

theorem r_lenMap {x : AOpd} (h : Rel P f σ w) (hok : ok_lenMap P x o.op = true) (ha : TR P f tm a.tmps) (hv : op_lenMap x tm σ = some (v, σ')) : σ' = σ ∧ ReadOK P f o a v w := by
  unfold ok_lenMap at hok
  split at hok
  · rename_i args argTypes ho
    split at hok
    · rename_i y t hargs ht
      simp only [Bool.and_eq_true] at hok
      obtain ⟨hx, hu⟩ := hok
      split at hu
      · rename_i kt e hu'
        obtain ⟨u, h1, h2⟩ := bind_some hv
        have hc := opd_sound hx ha h1
        split at h2
        · cases h2
          simp only [VR] at hc
          exact ⟨rfl, _, rfl, run_len ho hargs w (by simp [Builtin.len_, ht, run_underlying' hu', hc, goInt])⟩
        · split at h2
          · rename_i es cl hg
            cases h2
            simp only [VR] at hc
            obtain ⟨rb, off, rs, hf, hc⟩ := hc
            obtain ⟨rb', off', rs', res, k1, k2, k3⟩ := map_home h hg
            rw [hf] at k1; cases k1
            refine ⟨rfl, _, rfl, run_len ho hargs w ?_⟩
            have hl : res.size = es.length := by simpa using k3.1
            simp [Builtin.len_, ht, run_underlying' hu', hc, goInt, run_getMap k2, hl]
          · cases h2
        · cases h2
      · cases hu
    · cases hok
  · cases hok

theorem read_sound {ao : AOp} (hc : cls ao = 1) (h : Rel P f σ w) (hok : okOp P ao o.op = true) (ha : TR P f tm a.tmps) (hv : opV ao tm σ = some (v, σ')) : σ' = σ ∧ ReadOK P f o a v w := by
  cases ao <;> first | (simp [cls] at hc; done) | skip
  case load => exact r_load h hok ha hv
  case lookup => exact r_lookup h hok ha hv
  case lenMap => exact r_lenMap h hok ha hv

end Go.AM
