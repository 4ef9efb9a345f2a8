/- Each operation that only reckons, the last: least and greatest, building, equality of structs and arrays. And all of them together. -/
import Derived.Test.YtbapopkhebnbpaaAm8
namespace Go.AM
open Go

variable {P : Program} {f : FM} {tm : T AV} {σ σ' : AS} {a : Act} {v : AV} {o : Oper}

theorem VRs.cons_inv {x : AV} {l : List AV} {r : List Value} (h : VRs P f (x :: l) r) : ∃ y r', r = y :: r' ∧ VR P f x y ∧ VRs P f l r' := by
  simpa only [VRs] using h

theorem min2_sound {x y z : AV} (h : minV x y = some z) {p q : Value} (hp : VR P f x p) (hq : VR P f y q) : ∃ r, VR P f z r ∧ ∀ w, (Builtin.min2 p q).run P w = .ok r w := by
  unfold minV at h
  split at h
  · rename_i k a k' b
    cases hk : kEq k k' with
    | false => simp [hk] at h
    | true =>
      simp [hk] at h; subst h
      simp only [VR] at hp hq
      refine ⟨.int k (if b < a then b else a), ?_, fun w => by rw [hp, hq]; rfl⟩
      simp only [VR]
      by_cases e : b < a <;> simp [e]
  · cases h
theorem max2_sound {x y z : AV} (h : maxV x y = some z) {p q : Value} (hp : VR P f x p) (hq : VR P f y q) : ∃ r, VR P f z r ∧ ∀ w, (Builtin.max2 p q).run P w = .ok r w := by
  unfold maxV at h
  split at h
  · rename_i k a k' b
    cases hk : kEq k k' with
    | false => simp [hk] at h
    | true =>
      simp [hk] at h; subst h
      simp only [VR] at hp hq
      refine ⟨.int k (if a < b then b else a), ?_, fun w => by rw [hp, hq]; rfl⟩
      simp only [VR]
      by_cases e : a < b <;> simp [e]
  · cases h
theorem fold_sound {g : AV → AV → Option AV} {m2 : Value → Value → Sem Value} (hg : ∀ {x y z : AV}, g x y = some z → ∀ {p q : Value}, VR P f x p → VR P f y q → ∃ r, VR P f z r ∧ ∀ w, (m2 p q).run P w = .ok r w) :
    ∀ {l : List AV} {x z : AV} {r : List Value} {p : Value}, foldV g x l = some z → VR P f x p → VRs P f l r → ∃ q, VR P f z q ∧ ∀ w, (r.foldlM m2 p).run P w = .ok q w
  | [], x, z, r, p, h, hp, hr => by
    simp [foldV] at h; subst h
    simp only [VRs] at hr; subst hr
    exact ⟨p, hp, fun w => rfl⟩
  | y :: l, x, z, r, p, h, hp, hr => by
    obtain ⟨q, r', rfl, h1, h2⟩ := hr.cons_inv
    simp only [foldV] at h
    obtain ⟨u, h3, h4⟩ := bind_some h
    obtain ⟨s, h5, h6⟩ := hg h3 hp h1
    obtain ⟨t, h7, h8⟩ := fold_sound (@hg) h4 h5 h2
    exact ⟨t, h7, fun w => by simp only [List.foldlM_cons, Sem.run_bind, h6, Result.andThen_ok, h8]⟩

theorem p_min {xs : List AOpd} (hok : ok_min xs o.op = true) (ha : TR P f tm a.tmps) (hv : op_min xs tm σ = some (v, σ')) : PureOK P f o a v σ σ' := by
  unfold ok_min at hok
  split at hok
  · rename_i args at_ ho
    obtain ⟨us, h1, h2⟩ := bind_some hv
    have hs := opds_sound hok ha h1
    split at h2
    · rename_i x r
      obtain ⟨z, h3, h4⟩ := map_some h2
      cases h4
      obtain ⟨p, r', he, h5, h6⟩ := hs.cons_inv
      obtain ⟨q, h7, h8⟩ := fold_sound (@min2_sound P f) h3 h5 h6
      refine ⟨rfl, q, h7, fun w => ?_⟩
      have he' : (Array.map a.eval args).toList = p :: r' := by simpa using he
      simp only [execOp, ho, resolve, invoke, builtin, Sem.run_bind, Sem.run_pure, Result.andThen_ok, Builtin.min_, he', h8]
    · cases h2
  · cases hok
theorem p_max {xs : List AOpd} (hok : ok_max xs o.op = true) (ha : TR P f tm a.tmps) (hv : op_max xs tm σ = some (v, σ')) : PureOK P f o a v σ σ' := by
  unfold ok_max at hok
  split at hok
  · rename_i args at_ ho
    obtain ⟨us, h1, h2⟩ := bind_some hv
    have hs := opds_sound hok ha h1
    split at h2
    · rename_i x r
      obtain ⟨z, h3, h4⟩ := map_some h2
      cases h4
      obtain ⟨p, r', he, h5, h6⟩ := hs.cons_inv
      obtain ⟨q, h7, h8⟩ := fold_sound (@max2_sound P f) h3 h5 h6
      refine ⟨rfl, q, h7, fun w => ?_⟩
      have he' : (Array.map a.eval args).toList = p :: r' := by simpa using he
      simp only [execOp, ho, resolve, invoke, builtin, Sem.run_bind, Sem.run_pure, Result.andThen_ok, Builtin.max_, he', h8]
    · cases h2
  · cases hok

/-- So many cells laid one by one. -/
theorem foldSet (off : Nat) : ∀ (vs : List Value) (k : Nat) (cs : Array Value),
    (((vs.zipIdx k).foldl (fun cs (x : Value × Nat) => cs.setIfInBounds (off + x.2) x.1) cs).size = cs.size) ∧
    ∀ i, ((vs.zipIdx k).foldl (fun cs (x : Value × Nat) => cs.setIfInBounds (off + x.2) x.1) cs)[i]? = if off + k ≤ i ∧ i < off + k + vs.length ∧ i < cs.size then vs[i - off - k]? else cs[i]?
  | [], k, cs => by
    refine ⟨by simp, fun i => ?_⟩
    rw [if_neg (by simp; omega)]
    simp
  | v :: vs, k, cs => by
    obtain ⟨h1, h2⟩ := foldSet off vs (k + 1) (cs.setIfInBounds (off + k) v)
    simp only [List.zipIdx_cons, List.foldl_cons]
    refine ⟨by rw [h1]; simp, fun i => ?_⟩
    rw [h2]
    simp only [Array.size_setIfInBounds, List.length_cons]
    by_cases e : i = off + k
    · subst e
      rw [if_neg (by omega)]
      by_cases hs : off + k < cs.size
      · rw [if_pos (by omega)]
        simp [hs, show off + k - off - k = 0 by omega]
      · rw [if_neg (by omega)]
        simp [hs]
    · by_cases hc : off + (k + 1) ≤ i ∧ i < off + (k + 1) + vs.length ∧ i < cs.size
      · rw [if_pos hc, if_pos (by omega)]
        rw [show i - off - k = (i - off - (k + 1)) + 1 by omega]
        simp
      · rw [if_neg hc, if_neg (by omega)]
        rw [Array.getElem?_setIfInBounds_ne (by omega)]

theorem wr_get (c : List AV) (o : Nat) (vs : List AV) (h : o + vs.length ≤ c.length) (i : Nat) : (wr c o vs)[i]? = if o ≤ i ∧ i < o + vs.length then vs[i - o]? else c[i]? := by
  unfold wr
  rw [List.getElem?_append]
  simp only [List.length_take, Nat.min_eq_left (show o ≤ c.length by omega)]
  by_cases h1 : i < o
  · rw [if_pos h1, if_neg (by omega), List.getElem?_take, if_pos h1]
  · rw [if_neg h1, List.getElem?_append]
    by_cases h2 : i - o < vs.length
    · rw [if_pos h2, if_pos (by omega)]
    · rw [if_neg h2, if_neg (by omega), List.getElem?_drop]
      congr 1; omega
theorem wr_length (c : List AV) (o : Nat) (vs : List AV) (h : o + vs.length ≤ c.length) : (wr c o vs).length = c.length := by
  unfold wr
  simp only [List.length_append, List.length_take, List.length_drop]
  omega

theorem VRs.wr {c : List AV} {cs : Array Value} (hc : VRs P f c cs.toList) {o : Nat} {vs : List AV} {rs : List Value} (hv : VRs P f vs rs) (h : o + vs.length ≤ c.length) :
    VRs P f (AM.wr c o vs) ((rs.zipIdx 0).foldl (fun cs (x : Value × Nat) => cs.setIfInBounds (o + x.2) x.1) cs).toList := by
  obtain ⟨h1, h2⟩ := foldSet o rs 0 cs
  have hl : cs.size = c.length := by simpa using hc.length
  refine VRs.of_get (by rw [wr_length c o vs h]; simp [h1, hl]) (fun i x hx => ?_)
  rw [wr_get c o vs h] at hx
  have h2 := h2 i
  rw [hv.length, hl] at h2
  split at hx
  · rename_i hi
    obtain ⟨u, h3, h4⟩ := hv.get hx
    rw [if_pos (by omega)] at h2
    exact ⟨u, by simpa [h2] using h3, h4⟩
  · rename_i hi
    obtain ⟨u, h3, h4⟩ := hc.get hx
    rw [if_neg (by omega)] at h2
    exact ⟨u, by simpa [h2] using h3, h4⟩

theorem fill_step {place : Nat → Option (Nat × Nat)} {cells : Array Value} {i off size : Nat} {u : Value} {rest : List (Nat × Value)} (hp : place i = some (off, size)) (h1 : u.cells.size = size) (h2 : off + size ≤ cells.size) :
    Instr.fill place cells ((i, u) :: rest) = Instr.fill place ((u.cells.toList.zipIdx 0).foldl (fun cs (x : Value × Nat) => cs.setIfInBounds (off + x.2) x.1) cells) rest := by
  rw [Instr.fill, hp]
  dsimp only
  rw [if_neg (by simp; omega)]
  congr 1
  rw [← Array.foldl_toList]
  simp

/-- The parts of a composite value. -/
theorem fill_sound {place : Nat → Option (Nat × Nat)} : ∀ {ps : List (Nat × Nat × AOpd)} {qs : List (Nat × Operand)} {us : List (Nat × Nat × AV)} {c r : List AV} {cs : Array Value},
    (∀ (k : Nat) x y, ps[k]? = some x → qs[k]? = some y → place y.1 = some (x.1, x.2.1) ∧ okO x.2.2 y.2 = true) → ps.length = qs.length → TR P f tm a.tmps → partsOf ps tm = some us → fillP c us = some r → VRs P f c cs.toList →
    ∃ rs, Instr.fill place cs (qs.map fun (i, x) => (i, a.eval x)) = some rs ∧ VRs P f r rs.toList
  | [], [], us, c, r, cs, _, _, _, h2, h3, h4 => by
    simp [partsOf] at h2; subst h2
    simp [fillP] at h3; subst h3
    exact ⟨cs, rfl, h4⟩
  | [], _ :: _, _, _, _, _, _, h, _, _, _, _ => by simp at h
  | _ :: _, [], _, _, _, _, _, h, _, _, _, _ => by simp at h
  | (o, n, x) :: ps, (i, y) :: qs, us, c, r, cs, hk, hl, ha, h2, h3, h4 => by
    simp only [partsOf] at h2
    obtain ⟨u, g1, h2⟩ := bind_some h2
    obtain ⟨us', g2, h2⟩ := bind_some h2
    cases h2
    simp only [fillP] at h3
    cases hb : (Nat.beq u.cells.length n && Nat.ble (o + n) c.length && u.cells.all AV.scalar) with
    | false => simp [hb] at h3
    | true =>
      simp only [hb, cond_true] at h3
      simp only [Bool.and_eq_true] at hb
      have e1 := Nat.eq_of_beq_eq_true hb.1.1
      have e2 := Nat.le_of_ble_eq_true hb.1.2
      obtain ⟨k1, k2⟩ := hk 0 _ _ rfl rfl
      have k1 : place i = some (o, n) := k1
      have k2 : okO x y = true := k2
      have hu := opd_sound k2 ha g1
      have hcl := hu.cells.length
      have hsz : (a.eval y).cells.size = n := by rw [← e1, ← hcl]; simp
      have hcs : cs.size = c.length := by simpa using h4.length
      obtain ⟨rs, g3, g4⟩ := fill_sound (fun k x' y' hx hy => hk (k + 1) x' y' (by simpa using hx) (by simpa using hy)) (by simpa using hl) ha g2 h3 (VRs.wr h4 hu.cells (by omega))
      refine ⟨rs, ?_, g4⟩
      rw [List.map_cons]
      dsimp only
      rw [fill_step k1 hsz (by omega)]
      exact g3

theorem okPartsA_get {size : Nat} : ∀ {ps : List (Nat × Nat × AOpd)} {qs : List (Nat × Operand)}, okPartsA size ps qs = true → ps.length = qs.length ∧
    ∀ (k : Nat) x y, ps[k]? = some x → qs[k]? = some y → (y.1 * size = x.1 ∧ size = x.2.1) ∧ okO x.2.2 y.2 = true
  | [], [], _ => by simp
  | [], _ :: _, h => by simp [okPartsA] at h
  | _ :: _, [], h => by simp [okPartsA] at h
  | (o, n, x) :: ps, (i, y) :: qs, h => by
    simp only [okPartsA, Bool.and_eq_true] at h
    obtain ⟨⟨⟨h1, h2⟩, h3⟩, h4⟩ := h
    obtain ⟨g1, g2⟩ := okPartsA_get h4
    refine ⟨by simp [g1], fun k x' y' hx hy => ?_⟩
    cases k with
    | zero => simp at hx hy; subst hx; subst hy; exact ⟨⟨Nat.eq_of_beq_eq_true h1, Nat.eq_of_beq_eq_true h2⟩, h3⟩
    | succ k => exact g2 k x' y' (by simpa using hx) (by simpa using hy)
theorem okPartsS_get {fields : Array Field} : ∀ {ps : List (Nat × Nat × AOpd)} {qs : List (Nat × Operand)}, okPartsS P fields ps qs = true → ps.length = qs.length ∧
    ∀ (k : Nat) x y, ps[k]? = some x → qs[k]? = some y → (∃ fd, fields[y.1]? = some fd ∧ fd.offset = x.1 ∧ okSize P fd.type x.2.1 = true) ∧ okO x.2.2 y.2 = true
  | [], [], _ => by simp
  | [], _ :: _, h => by simp [okPartsS] at h
  | _ :: _, [], h => by simp [okPartsS] at h
  | (o, n, x) :: ps, (i, y) :: qs, h => by
    simp only [okPartsS, Bool.and_eq_true] at h
    obtain ⟨⟨h1, h3⟩, h4⟩ := h
    obtain ⟨g1, g2⟩ := okPartsS_get h4
    refine ⟨by simp [g1], fun k x' y' hx hy => ?_⟩
    cases k with
    | zero =>
      simp at hx hy; subst hx; subst hy
      refine ⟨?_, h3⟩
      split at h1
      · rename_i fd hfd
        simp only [Bool.and_eq_true] at h1
        exact ⟨fd, hfd, Nat.eq_of_beq_eq_true h1.1, h1.2⟩
      · cases h1
    | succ k => exact g2 k x' y' (by simpa using hx) (by simpa using hy)

theorem zero_sound {t : Nat} {zero : List AV} (h : okZero P t zero = true) : ∃ i z, P.info? t = some i ∧ i.zero = some z ∧ (∀ f, VRs P f zero z.cells.toList) ∧ zero.all AV.scalar = true ∧ zero.length = i.size ∧ ∀ w, (zeroValue t).run P w = .ok z w := by
  unfold okZero at h
  split at h
  · rename_i i hi
    split at h
    · rename_i z hz
      simp only [Bool.and_eq_true] at h
      exact ⟨i, z, hi, hz, fun f => okVs.vr _ _ h.1.1, h.1.2, Nat.eq_of_beq_eq_true h.2, fun w => by simp [zeroValue, run_typeInfo' hi, hz]⟩
    · cases h
  · cases h

def placesOf (P : Program) (fields : Array Field) : Array (Nat × Nat) := fields.map fun fd => (fd.offset, sizeT P fd.type)
theorem run_places {fields : Array Field} (h : okFieldsSized P fields = true) (w : World) : (fields.mapM fun f => (do pure (f.offset, ← sizeOf f.type) : Sem (Nat × Nat))).run P w = .ok (placesOf P fields) w := by
  have key : ∀ (l : List Field), l.all (fun fd => (P.info? fd.type).isSome) = true → (l.mapM fun f => (do pure (f.offset, ← sizeOf f.type) : Sem (Nat × Nat))).run P w = .ok (l.map fun fd => (fd.offset, sizeT P fd.type)) w := by
    intro l
    induction l with
    | nil => intro _; rfl
    | cons g l ih =>
      intro hl
      simp only [List.all_cons, Bool.and_eq_true] at hl
      obtain ⟨j, hj⟩ := Option.isSome_iff_exists.1 hl.1
      have e : sizeT P g.type = j.size := by simp [sizeT, hj]
      simp only [List.mapM_cons, Sem.run_bind, run_sizeOf' hj, Result.andThen_ok, Sem.run_pure, ih hl.2, List.map_cons, e]
  rw [Array.mapM_eq_mapM_toList]
  rw [Sem.run_map, key fields.toList h]
  simp only [Result.andThen_ok, placesOf]
  rw [← List.map_toArray]
theorem placesOf_get {fields : Array Field} {i : Nat} {fd : Field} (h : fields[i]? = some fd) {n : Nat} (hn : okSize P fd.type n = true) : (placesOf P fields)[i]? = some (fd.offset, n) := by
  obtain ⟨j, e1, e2⟩ := size_info hn
  simp [placesOf, h, sizeT, e1, e2]

theorem p_build {zero : List AV} {ps : List (Nat × Nat × AOpd)} (hok : ok_build P zero ps o.op = true) (ha : TR P f tm a.tmps) (hv : op_build zero ps tm σ = some (v, σ')) : PureOK P f o a v σ σ' := by
  unfold ok_build at hok
  split at hok
  · rename_i t qs ho
    simp only [Bool.and_eq_true] at hok
    obtain ⟨hz, hu⟩ := hok
    obtain ⟨i, z, hi, hz1, hz2, hz3, hz4, hzr⟩ := zero_sound hz
    obtain ⟨us, g1, hv⟩ := bind_some hv
    obtain ⟨r, g2, g3⟩ := map_some hv
    cases g3
    refine ⟨rfl, ?_⟩
    split at hu
    · rename_i fields hu'
      simp only [Bool.and_eq_true] at hu
      obtain ⟨hl, hk⟩ := okPartsS_get hu.2
      obtain ⟨rs, e3, e4⟩ := fill_sound (place := ((placesOf P fields)[·]?)) (fun k x y hx hy => by
          obtain ⟨⟨fd, k1, k2, k3⟩, k4⟩ := hk k x y hx hy
          exact ⟨by rw [placesOf_get k1 k3, k2], k4⟩) hl ha g1 g2 (hz2 f)
      refine ⟨.agg rs, by simp only [VR]; exact ⟨_, rfl, e4⟩, fun w => ?_⟩
      have e3' : Instr.fill ((placesOf P fields)[·]?) z.cells (Array.map (fun x : Nat × Operand => (x.1, a.eval x.2)) qs).toList = some rs := by simpa using e3
      simp only [execOp, ho, Instr.build, Sem.run_bind, hzr, Result.andThen_ok, run_underlying' hu', run_places hu.1, e3', Sem.run_pure]
    · rename_i n e hu'
      split at hu
      · rename_i j hj
        obtain ⟨hl, hk⟩ := okPartsA_get hu
        obtain ⟨rs, e3, e4⟩ := fill_sound (place := fun i => some (i * j.size, j.size)) (fun k x y hx hy => by
            obtain ⟨⟨k1, k2⟩, k4⟩ := hk k x y hx hy
            exact ⟨by rw [k1, k2], k4⟩) hl ha g1 g2 (hz2 f)
        refine ⟨.agg rs, by simp only [VR]; exact ⟨_, rfl, e4⟩, fun w => ?_⟩
        have e3' : Instr.fill (fun i => some (i * j.size, j.size)) z.cells (Array.map (fun x : Nat × Operand => (x.1, a.eval x.2)) qs).toList = some rs := by simpa using e3
        simp only [execOp, ho, Instr.build, Sem.run_bind, hzr, Result.andThen_ok, run_underlying' hu', run_sizeOf' hj, e3', Sem.run_pure]
      · cases hu
    · cases hu
  · cases hok

/-- Equality of lists of whole numbers. -/
theorem sameKinds_len : ∀ {x y : List AV}, sameKinds x y = true → x.length = y.length
  | [], [], _ => rfl
  | [], y :: _, h => by cases y <;> simp [sameKinds] at h
  | x :: _, [], h => by cases x <;> simp [sameKinds] at h
  | x :: l, y :: r, h => by
    cases x <;> cases y <;> simp [sameKinds] at h
    simp [sameKinds_len h.2]
theorem sameKinds_get : ∀ {x y : List AV} {i : Nat}, sameKinds x y = true → i < x.length → ∃ k a b, x[i]? = some (.int k a) ∧ y[i]? = some (.int k b)
  | [], _, _, _, h => by simp at h
  | x :: _, [], _, h, _ => by cases x <;> simp [sameKinds] at h
  | x :: l, y :: r, i, h, hi => by
    cases x <;> cases y <;> simp [sameKinds] at h
    rename_i k a k' b
    have e := kEq_iff.1 h.1; subst e
    cases i with
    | zero => exact ⟨k, a, b, rfl, rfl⟩
    | succ i => simpa using sameKinds_get (i := i) h.2 (by simpa using hi)
theorem okIntFields_cons {fd : Field} {r : List Field} {i : Nat} (h : okIntFields P (fd :: r) i = true) : (fd.name ≠ "_" ∧ ∃ k, P.underlying fd.type = some (.int k)) ∧ fd.offset = i ∧ okIntFields P r (i + 1) = true := by
  simp only [okIntFields, Bool.and_eq_true] at h
  refine ⟨?_, Nat.eq_of_beq_eq_true h.1.2, h.2⟩
  unfold okIntField at h
  simp only [Bool.and_eq_true, decide_eq_true_eq] at h
  refine ⟨h.1.1.1, ?_⟩
  have h2 := h.1.1.2
  split at h2
  · rename_i k hk; exact ⟨k, hk⟩
  · cases h2
theorem run_part_int {t : Nat} {k : IntKind} (hu : P.underlying t = some (.int k)) {cs : Array Value} {i : Nat} {x : Value} (hx : cs[i]? = some x) (w : World) : (part t cs i).run P w = .ok x w := by
  simp [part, isAgg, run_underlying' hu, hx]
theorem equalIn_int (d : Nat) {t : Nat} {k : IntKind} (hu : P.underlying t = some (.int k)) (j : IntKind) (x y : Int) (w : World) : (Op.equalIn (d + 1) t (.int j x) (.int j y)).run P w = .ok (x == y) w := by
  simp only [Op.equalIn, Sem.run_bind, run_underlying' hu, Result.andThen_ok, if_true, Sem.run_pure]
theorem VRs_int {l : List AV} {r : List Value} (h : VRs P f l r) {i : Nat} {k : IntKind} {x : Int} (hx : l[i]? = some (.int k x)) : r[i]? = some (.int k x) := by
  obtain ⟨u, h1, h2⟩ := h.get hx
  simp only [VR] at h2
  rw [h1, h2]

/-- The fields of a struct of whole numbers, from one on. -/
theorem eqFields_sound {p q : List AV} {cp cq : Array Value} (hk : sameKinds p q = true) (hp : VRs P f p cp.toList) (hq : VRs P f q cq.toList) (d : Nat) : ∀ (fs : List Field) (i : Nat) (t : Bool), okIntFields P fs i = true → i + fs.length = p.length → intsEq (p.drop i) (q.drop i) = some t → ∀ w,
    (Op.eqFields (d + 1) cp cq fs).run P w = .ok t w
  | [], i, t, _, hl, h, w => by
    have h1 : p.drop i = [] := by simp at hl; simp [hl]
    have h2 : q.drop i = [] := by have := sameKinds_len hk; simp at hl; simp [← this, hl]
    rw [h1, h2] at h
    simp [intsEq] at h; subst h
    rfl
  | fd :: fs, i, t, ho, hl, h, w => by
    obtain ⟨⟨h1, k, hu⟩, h2, h3⟩ := okIntFields_cons ho
    have hi : i < p.length := by simp at hl; omega
    obtain ⟨j, x, y, hx, hy⟩ := sameKinds_get hk hi
    have hiq : i < q.length := by rw [← sameKinds_len hk]; exact hi
    have ep : p.drop i = .int j x :: p.drop (i + 1) := by
      rw [List.drop_eq_getElem_cons hi]
      rw [List.getElem?_eq_getElem hi] at hx
      cases hx' : p[i] <;> simp_all
    have eq_ : q.drop i = .int j y :: q.drop (i + 1) := by
      rw [List.drop_eq_getElem_cons hiq]
      rw [List.getElem?_eq_getElem hiq] at hy
      cases hy' : q[i] <;> simp_all
    rw [ep, eq_] at h
    have hkk : kEq j j = true := kEq_iff.2 rfl
    simp only [intsEq, hkk, cond_true] at h
    have hcx : cp[i]? = some (.int j x) := by simpa using VRs_int hp hx
    have hcy : cq[i]? = some (.int j y) := by simpa using VRs_int hq hy
    simp only [Op.eqFields, if_pos h1, Sem.run_bind, h2, run_part_int hu hcx, run_part_int hu hcy, Result.andThen_ok, equalIn_int d hu]
    by_cases e : x = y
    · subst e
      simp at h
      simp only [beq_self_eq_true, Bool.not_true, Bool.false_eq_true, if_false]
      exact eqFields_sound hk hp hq d fs (i + 1) t h3 (by simp at hl; omega) h w
    · simp [e] at h; subst h
      have : (x == y) = false := by simpa using e
      simp only [this, Bool.not_false, if_true, Sem.run_pure]

/-- An array of whole numbers. -/
theorem eqArr_sound {p q : List AV} {cp cq : Array Value} (hk : sameKinds p q = true) (hp : VRs P f p cp.toList) (hq : VRs P f q cq.toList) (d : Nat) {e : Nat} {k : IntKind} (hu : P.underlying e = some (.int k)) {ty : Nat} {m : Nat} (ht : P.underlying ty = some (.array m e))
    {inf : TypeInfo} (hi : P.info? e = some inf) (hs : inf.size = 1) (hm : m = p.length) {t : Bool} (h : intsEq p q = some t) (w : World) : (Op.equalIn (d + 2) ty (.agg cp) (.agg cq)).run P w = .ok t w := by
  have key : ∀ (n i : Nat) (t : Bool), i + n = p.length → intsEq (p.drop i) (q.drop i) = some t → ∀ w, ∃ s : Option Bool × Unit,
      (forIn (List.range' i n) ((none, ()) : Option Bool × Unit) fun i _ => (do
          let x ← part e cp (i * 1)
          let y ← part e cq (i * 1)
          let z ← Op.equalIn (d + 1) e x y
          if (!z) = true then pure (.done (some false, ())) else pure (.yield (none, ())) : Sem (ForInStep (Option Bool × Unit)))).run P w = .ok s w ∧ s.1.getD true = t := by
    intro n
    induction n with
    | zero =>
      intro i t hl h w
      have h1 : p.drop i = [] := by simp at hl; simp [hl]
      have h2 : q.drop i = [] := by have := sameKinds_len hk; simp at hl; simp [← this, hl]
      rw [h1, h2] at h
      simp [intsEq] at h; subst h
      exact ⟨(none, ()), rfl, rfl⟩
    | succ n ih =>
      intro i t hl h w
      have hi : i < p.length := by omega
      obtain ⟨j, x, y, hx, hy⟩ := sameKinds_get hk hi
      have hiq : i < q.length := by rw [← sameKinds_len hk]; exact hi
      have ep : p.drop i = .int j x :: p.drop (i + 1) := by
        rw [List.drop_eq_getElem_cons hi]
        rw [List.getElem?_eq_getElem hi] at hx
        cases hx' : p[i] <;> simp_all
      have eq_ : q.drop i = .int j y :: q.drop (i + 1) := by
        rw [List.drop_eq_getElem_cons hiq]
        rw [List.getElem?_eq_getElem hiq] at hy
        cases hy' : q[i] <;> simp_all
      rw [ep, eq_] at h
      have hkk : kEq j j = true := kEq_iff.2 rfl
      simp only [intsEq, hkk, cond_true] at h
      have hcx : cp[i]? = some (.int j x) := by simpa using VRs_int hp hx
      have hcy : cq[i]? = some (.int j y) := by simpa using VRs_int hq hy
      rw [List.range'_succ, List.forIn_cons]
      simp only [Sem.run_bind, Nat.mul_one, run_part_int hu hcx, run_part_int hu hcy, Result.andThen_ok, equalIn_int d hu]
      by_cases e : x = y
      · subst e
        simp at h
        obtain ⟨s, h1, h2⟩ := ih (i + 1) t (by omega) h w
        refine ⟨s, ?_, h2⟩
        simp only [Nat.mul_one] at h1
        simpa using h1
      · simp [e] at h; subst h
        have : (x == y) = false := by simpa using e
        exact ⟨(some false, ()), by simp [this], rfl⟩
  obtain ⟨s, h1, h2⟩ := key m 0 t (by omega) (by simpa using h) w
  rw [Op.equalIn]
  simp only [Sem.run_bind, run_underlying' ht, Result.andThen_ok, run_sizeOf' hi, hs]
  rw [Std.Legacy.Range.forIn_eq_forIn_range']
  have e0 : Std.Legacy.Range.size [:m] = m := by simp [Std.Legacy.Range.size]
  rw [e0]
  have e1 := h1
  rw [show ((forIn (List.range' 0 m) ((none, ()) : Option Bool × Unit) fun i _ => (do
          let x ← part e cp (i * 1)
          let y ← part e cq (i * 1)
          let z ← Op.equalIn (d + 1) e x y
          if (!z) = true then pure (.done (some false, ())) else pure (.yield (none, ())) : Sem (ForInStep (Option Bool × Unit)))).run P w) = _ from h1]
  obtain ⟨r, u⟩ := s
  cases r <;> simp at h2 <;> subst h2 <;> rfl

theorem equal_sound {p q : List AV} {cp cq : Array Value} (hk : sameKinds p q = true) (hp : VRs P f p cp.toList) (hq : VRs P f q cq.toList) {ty n : Nat} (ht : okFlat P ty n = true) (hn : p.length = n) {t : Bool} (h : intsEq p q = some t) (w : World) :
    (Op.equal ty (.agg cp) (.agg cq)).run P w = .ok t w := by
  show (Op.equalIn (9998 + 2) ty (.agg cp) (.agg cq)).run P w = .ok t w
  unfold okFlat at ht
  split at ht
  · rename_i fs hu
    simp only [Bool.and_eq_true, Bool.not_eq_true'] at ht
    obtain ⟨⟨h1, h2⟩, h3⟩ := ht
    have h3 := Nat.eq_of_beq_eq_true h3
    have hf : P.fieldsOf ty = fs := by simp [Program.fieldsOf, hu]
    rw [run_equalIn_struct w (9998 + 1) ty cp cq (by rw [hf]; exact hu) h1, hf]
    exact eqFields_sound hk hp hq 9998 fs.toList 0 t h2 (by simp; omega) (by simpa using h) w
  · rename_i m e hu
    simp only [Bool.and_eq_true] at ht
    obtain ⟨h1, h2⟩ := ht
    have h1 := Nat.eq_of_beq_eq_true h1
    split at h2
    · rename_i k i hk' hi
      exact eqArr_sound hk hp hq 9998 hk' hu hi (Nat.eq_of_beq_eq_true h2) (by omega) h w
    · cases h2
  · cases ht

theorem p_eqAgg {n : Nat} {neg : Bool} {x y : AOpd} (hok : ok_eqAgg P n neg x y o.op = true) (ha : TR P f tm a.tmps) (hv : op_eqAgg n neg x y tm σ = some (v, σ')) : PureOK P f o a v σ σ' := by
  unfold ok_eqAgg at hok
  split at hok
  · rename_i op t p q ty ho
    simp only [Bool.and_eq_true, Bool.not_eq_true'] at hok
    obtain ⟨⟨⟨⟨hop, hx⟩, hy⟩, hfl⟩, hg⟩ := hok
    obtain ⟨u1, h1, h2⟩ := bind_some hv
    obtain ⟨u2, h3, h4⟩ := bind_some h2
    have hp := opd_sound hx ha h1
    have hq := opd_sound hy ha h3
    clear h2 hv
    split at h4
    · rename_i b1 b2
      cases hb : (sameKinds b1 b2 && Nat.beq b1.length n) with
      | false => simp [hb] at h4
      | true =>
        simp only [hb, cond_true] at h4
        simp only [Bool.and_eq_true] at hb
        obtain ⟨r, h5, h6⟩ := map_some h4
        cases h6
        simp only [VR] at hp hq
        obtain ⟨cp, hp, hcp⟩ := hp
        obtain ⟨cq, hq, hcq⟩ := hq
        refine ⟨rfl, .bool (xor neg r), by simp [VR], fun w => run_eq_of hop ho ?_ ?_ ?_ ?_⟩
        · rw [hp, hq]
          unfold eqGuard
          cases op <;> first | rfl | simp [hg]
        · rw [hp, hq]; rfl
        · rw [hp, hq]; rfl
        · rw [hp, hq]; exact equal_sound hb.1 hcp hcq hfl (Nat.eq_of_beq_eq_true hb.2) h5 w
    · cases h4
  · cases hok

/-- ALL THAT ONLY RECKONS. -/
theorem pure_sound {ao : AOp} (hc : cls ao = 0) (hok : okOp P ao o.op = true) (ha : TR P f tm a.tmps) (hv : opV ao tm σ = some (v, σ')) : PureOK P f o a v σ σ' := by
  cases ao <;> first | (simp [cls] at hc; done) | skip
  case mv => exact p_mv hok ha hv
  case pick => exact p_pick hok ha hv
  case build => exact p_build hok ha hv
  case nilCheck => exact p_nilCheck hok ha hv
  case bin => exact p_bin hok ha hv
  case eqAgg => exact p_eqAgg hok ha hv
  case eqB => exact p_eqB hok ha hv
  case eqNilS => exact p_eqNilS hok ha hv
  case eqNilP => exact p_eqNilP hok ha hv
  case not => exact p_not hok ha hv
  case neg => exact p_neg hok ha hv
  case conv => exact p_conv hok ha hv
  case mkFunc => exact p_mkFunc hok ha hv
  case slice => exact p_slice hok ha hv
  case sliceArr => exact p_sliceArr hok ha hv
  case sliceStr => exact p_sliceStr hok ha hv
  case fieldAddr => exact p_fieldAddr hok ha hv
  case field => exact p_field hok ha hv
  case idxAddrS => exact p_idxAddrS hok ha hv
  case idxAddrA => exact p_idxAddrA hok ha hv
  case idxA => exact p_idxA hok ha hv
  case idxStr => exact p_idxStr hok ha hv
  case extract => exact p_extract hok ha hv
  case lenStr => exact p_lenStr hok ha hv
  case lenSlc => exact p_lenSlc hok ha hv
  case min => exact p_min hok ha hv
  case max => exact p_max hok ha hv

end Go.AM
