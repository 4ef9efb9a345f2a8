/- What turns a map. -/
import Derived.Test.YtbapopkhebnbpaaAm12
namespace Go.AM
open Go

variable {P : Program} {f : FM} {tm : T AV} {σ σ' : AS} {w w' : World} {a : Act} {v : AV} {o : Oper}

theorem sameBits_sound {kn : Nat} {k q : AV} (hk : keyOK kn k = true) (h : keyEq k q = some true) {rk rq : Value} (h1 : VR P f k rk) (h2 : VR P f q rq) (d : Nat) : Instr.sameBits (d + 2) rq rk = true := by
  unfold keyEq at h
  split at h
  · rename_i j x j' y
    cases hkk : kEq j j' with
    | false => simp [hkk] at h
    | true =>
      have := kEq_iff.1 hkk; subst this
      simp [hkk] at h; subst h
      simp only [VR] at h1 h2
      subst h1; subst h2
      simp [Instr.sameBits]
  · rename_i l r
    cases hkk : sameKinds l r with
    | false => simp [hkk] at h
    | true =>
      simp [hkk] at h
      simp only [VR] at h1 h2
      obtain ⟨cp, rfl, h1⟩ := h1
      obtain ⟨cq, rfl, h2⟩ := h2
      have key : ∀ {l r : List AV} {p q : List Value}, sameKinds l r = true → intsEq l r = some true → VRs P f l p → VRs P f r q → q.length = p.length ∧ (q.zip p).all (fun (x, y) => Instr.sameBits (d + 1) x y) = true := by
        intro l
        induction l with
        | nil =>
          intro r p q h1 h2 h3 h4
          cases r <;> simp [sameKinds] at h1
          simp only [VRs] at h3 h4
          subst h3; subst h4; simp
        | cons x l ih =>
          intro r p q h1 h2 h3 h4
          cases r with
          | nil => cases x <;> simp [sameKinds] at h1
          | cons y r =>
            cases x <;> cases y <;> simp [sameKinds] at h1
            rename_i k a k' b
            have e := kEq_iff.1 h1.1; subst e
            simp only [intsEq, h1.1, cond_true] at h2
            by_cases e : a = b
            · subst e
              simp at h2
              obtain ⟨u, p', rfl, g1, g2⟩ := h3.cons_inv
              obtain ⟨u', q', rfl, g3, g4⟩ := h4.cons_inv
              obtain ⟨e1, e2⟩ := ih h1.2 h2 g2 g4
              simp only [VR] at g1 g3
              subst g1; subst g3
              refine ⟨by simp [e1], ?_⟩
              simp only [List.zip_cons_cons, List.all_cons, e2, Bool.and_true]
              simp [Instr.sameBits]
            · simp [e] at h2
      obtain ⟨e1, e2⟩ := key hkk h h1 h2
      simp only [Instr.sameBits, Bool.and_eq_true]
      exact ⟨by simpa using e1, e2⟩
  · cases h

theorem keyStays {kn : Nat} {k q : AV} (hk : keyOK kn k = true) (h : keyEq k q = some true) {rk rq : Value} (h1 : VR P f k rk) (h2 : VR P f q rq) (w : World) : (Instr.keyThatStays rq rk).run P w = .ok rk w := by
  have := sameBits_sound hk h h1 h2 9998
  simp [Instr.keyThatStays, this]

def putO (w : World) (r : Nat) (ob : Obj) : World := { w with heap := w.heap.setIfInBounds r ob }
theorem run_setMap {r : Nat} {res : Array MapEntry} {cl : Nat} (h : w.heap[r]? = some (.map res cl)) (ob : Obj) : (setObj r ob).run P w = .ok () (putO w r ob) := by
  simp [setObj, Sem.run, h, putO]
theorem putO_get {r : Nat} {ob ob' : Obj} (h : w.heap[r]? = some ob) : (putO w r ob').heap[r]? = some ob' := by
  have := (Array.getElem?_eq_some_iff.1 h).1
  simp [putO, this]
theorem putO_other (r : Nat) (ob : Obj) {i : Nat} (h : i ≠ r) : (putO w r ob).heap[i]? = w.heap[i]? := by
  simp [putO, Array.getElem?_setIfInBounds_ne (Ne.symm h)]

/-- A map of the step's own is turned. -/
theorem StR.map (h : Rel P f σ w) {b : Nat} {es es' : List (AV × AV × Nat)} {cl cl' : Nat} (hg : σ.heap.get b = some (.map es cl)) (hfl : σ.floor ≤ b) {rb off rs : Nat} (hf : f b = some (rb, off, rs)) {res res' : Array MapEntry}
    (hw : w.heap[rb]? = some (.map res cl)) (hes : EsR P f es' res'.toList) : StR P f σ w f { σ with heap := σ.heap.put b (some (.map es' cl')) } (putO w rb (.map res' cl')) :=
  StR.turned h hg rfl hfl hf (fun i hi => putO_other rb _ hi) (by simp [putO]) rfl rfl ⟨rb, off, rs, res', hf, putO_get hw, hes⟩

theorem EsR.set {es : List (AV × AV × Nat)} {res : Array MapEntry} (h : EsR P f es res.toList) {i : Nat} {q v0 : AV} {s : Nat} (hi : es[i]? = some (q, v0, s)) {k v : AV} {rk rv : Value} (hk : VR P f k rk) (hv : VR P f v rv) (g : MapEntry → MapEntry)
    (hg : ∀ e, res[i]? = some e → (g e).key = rk ∧ (g e).val = rv ∧ (g e).born = e.born) : EsR P f (es.set i (k, v, s)) (res.modify i g).toList := by
  refine ⟨by simpa using h.1, fun j a b c hj => ?_⟩
  have hlt := (List.getElem?_eq_some_iff.1 hi).1
  rw [List.getElem?_set] at hj
  split at hj
  · rename_i e
    subst e
    simp [hlt] at hj
    obtain ⟨rfl, rfl, rfl⟩ := hj
    obtain ⟨e, h1, h2, h3, h4⟩ := h.2 i q v0 s hi
    have h1' : res[i]? = some e := by simpa using h1
    obtain ⟨g1, g2, g3⟩ := hg e h1'
    refine ⟨g e, ?_, by rw [g1]; exact hk, by rw [g2]; exact hv, by rw [g3]; exact h4⟩
    simp only [Array.getElem?_toList, Array.getElem?_modify, if_true, h1', Option.map_some]
  · rename_i e
    obtain ⟨e', h1, h2, h3, h4⟩ := h.2 j a b c hj
    refine ⟨e', ?_, h2, h3, h4⟩
    simp only [Array.getElem?_toList, Array.getElem?_modify, if_neg e]
    simpa using h1
theorem EsR.push {es : List (AV × AV × Nat)} {res : Array MapEntry} (h : EsR P f es res.toList) {k v : AV} {rk rv : Value} (hk : VR P f k rk) (hv : VR P f v rv) (cl : Nat) : EsR P f (es ++ [(k, v, cl)]) (res.push { key := rk, val := rv, born := cl }).toList := by
  have hl : res.size = es.length := by simpa using h.1
  refine ⟨by simp [hl], fun j a b c hj => ?_⟩
  rw [List.getElem?_append] at hj
  split at hj
  · rename_i e
    obtain ⟨e', h1, h2⟩ := h.2 j a b c hj
    refine ⟨e', ?_, h2⟩
    simp only [Array.toList_push]
    rw [List.getElem?_append_left (by simp; omega)]
    exact h1
  · rename_i e
    have : j = es.length := by
      have := (List.getElem?_eq_some_iff.1 hj).1
      simp at this; omega
    subst this
    simp at hj
    obtain ⟨rfl, rfl, rfl⟩ := hj
    exact ⟨{ key := rk, val := rv, born := cl }, by simp [← hl], hk, hv, rfl⟩
theorem EsR.erase {es : List (AV × AV × Nat)} {res : Array MapEntry} (h : EsR P f es res.toList) {i : Nat} (hi : i < es.length) : EsR P f (es.eraseIdx i) (res.eraseIdxIfInBounds i).toList := by
  have hl : res.size = es.length := by simpa using h.1
  have e0 : (res.eraseIdxIfInBounds i).toList = res.toList.eraseIdx i := by
    unfold Array.eraseIdxIfInBounds
    rw [dif_pos (by omega)]
    simp
  rw [e0]
  refine ⟨by simp [List.length_eraseIdx, hl], fun j a b c hj => ?_⟩
  rw [List.getElem?_eraseIdx] at hj ⊢
  split at hj
  · rename_i e; rw [if_pos e]; exact h.2 j a b c hj
  · rename_i e; rw [if_neg e]; exact h.2 (j + 1) a b c hj

theorem keyOK_of_find {kn : Nat} {k : AV} {es : List (AV × AV × Nat)} {r} (h : findKk kn k es = some r) : keyOK kn k = true := by
  unfold findKk at h
  cases hk : keyOK kn k with
  | true => rfl
  | false => simp [hk] at h

theorem okMapT_inv {kn t : Nat} {z : Option AV} (h : okMapT P kn t z = true) : ∃ k e, P.underlying t = some (.map k e) ∧ okKey P kn k = true ∧ ∀ z', z = some z' → okZero1 P e z' = true := by
  unfold okMapT at h
  split at h
  · rename_i k e hu
    simp only [Bool.and_eq_true] at h
    refine ⟨k, e, hu, h.1, fun z' hz => ?_⟩
    subst hz
    exact h.2
  · cases h

theorem l_mapUpdate {kn : Nat} {m k x : AOpd} (h : Rel P f σ w) (hok : ok_mapUpdate P kn m k x o.op = true) (ha : TR P f tm a.tmps) (hv : op_mapUpdate kn m k x tm σ = some (v, σ')) : LoudOK P f o a v σ σ' w := by
  have core : ∀ t y z u, (o.op = .mapUpdate t y z u ∨ o.op = .insert t y z u) → (okO m y && okO k z && okO x u && okMapT P kn t none) = true → LoudOK P f o a v σ σ' w := by
    intro t y z u ho hok
    simp only [Bool.and_eq_true] at hok
    obtain ⟨⟨⟨hy, hz⟩, hu⟩, ht⟩ := hok
    obtain ⟨kt, e, hut, hkt, _⟩ := okMapT_inv ht
    replace hv := bind_some hv; obtain ⟨um, g1, hv⟩ := hv
    replace hv := bind_some hv; obtain ⟨uk, g2, hv⟩ := hv
    replace hv := bind_some hv; obtain ⟨uv, g3, hv⟩ := hv
    have hm := opd_sound hy ha g1
    have hk := opd_sound hz ha g2
    have hx := opd_sound hu ha g3
    have hexec : (execOp a.eval o).run P w = ((Instr.mapUpdate t (a.eval y) (a.eval z) (a.eval u)).run P w).andThen fun _ w' => .ok .skip w' := by
      rcases ho with ho | ho <;> simp [execOp, ho]
    split at hv
    · rename_i b
      cases hfl : Nat.ble σ.floor b with
      | false => simp [hfl] at hv
      | true =>
        simp [hfl] at hv
        split at hv
        · rename_i es cl hg
          obtain ⟨r, g4, g5⟩ := map_some hv
          simp only [VR] at hm
          obtain ⟨rb, off, rs, hf, hm⟩ := hm
          obtain ⟨rb', off', rs', res, k1, k2, k3⟩ := map_home h hg
          rw [hf] at k1; cases k1
          have hkk := keyOK_of_find g4
          obtain ⟨rr, hfk, hhit⟩ := findKey_sound hkt hk k3 g4 w
          have hck := checkKey_sound (f := f) hkt hkk hk false w
          unfold Hit at hhit
          split at hhit
          · cases g5
            refine .inr ⟨undef, _, f, .inr ⟨?_, rfl⟩, VR_undef, StR.map h hg (Nat.le_of_ble_eq_true hfl) hf k2 (k3.push hk hx cl)⟩
            rw [hexec]
            simp only [Instr.mapUpdate, Sem.run_bind, run_underlying' hut, Result.andThen_ok, hm, run_getMap k2, hck, hfk, run_setMap k2]
          · rename_i j v0 s0 j' rv
            obtain ⟨rfl, e1, _, q, e2, e3⟩ := hhit
            simp at e2
            cases g5
            obtain ⟨en, e4, e5, e6, e7⟩ := k3.2 _ q v0 s0 e2
            have e4' : res[j']? = some en := by simpa using e4
            have hst := keyStays (P := P) (f := f) hkk e3 hk e5 w
            refine .inr ⟨undef, _, f, .inr ⟨?_, rfl⟩, VR_undef, StR.map h hg (Nat.le_of_ble_eq_true hfl) hf k2 (k3.set e2 hk hx (fun e => { e with key := a.eval z, val := a.eval u }) (fun e _ => ⟨rfl, rfl, rfl⟩))⟩
            rw [hexec]
            simp only [Instr.mapUpdate, Sem.run_bind, run_underlying' hut, Result.andThen_ok, hm, run_getMap k2, hck, hfk, e4', Option.map_some, Option.getD_some, hst, run_setMap k2]
          · exact hhit.elim
        · cases hv
    · cases hv
  unfold ok_mapUpdate at hok
  split at hok
  · rename_i t y z u ho; exact core t y z u (.inl ho) hok
  · rename_i t y z u ho; exact core t y z u (.inr ho) hok
  · cases hok

theorem l_mapEntry {kn : Nat} {zero : AV} {m k : AOpd} (h : Rel P f σ w) (hok : ok_mapEntry P kn zero m k o.op = true) (ha : TR P f tm a.tmps) (hv : op_mapEntry kn zero m k tm σ = some (v, σ')) : LoudOK P f o a v σ σ' w := by
  unfold ok_mapEntry at hok
  split at hok
  · rename_i t y z ho
    simp only [Bool.and_eq_true] at hok
    obtain ⟨⟨hy, hz⟩, ht⟩ := hok
    obtain ⟨kt, e, hut, hkt, hz1⟩ := okMapT_inv ht
    obtain ⟨z0, hz0, hzr⟩ := zero1_sound (hz1 zero rfl)
    replace hv := bind_some hv; obtain ⟨um, g1, hv⟩ := hv
    replace hv := bind_some hv; obtain ⟨uk, g2, hv⟩ := hv
    have hm := opd_sound hy ha g1
    have hk := opd_sound hz ha g2
    split at hv
    · rename_i b
      cases hfl : Nat.ble σ.floor b with
      | false => simp [hfl] at hv
      | true =>
        simp [hfl] at hv
        split at hv
        · rename_i es cl hg
          obtain ⟨r, g4, g5⟩ := map_some hv
          simp only [VR] at hm
          obtain ⟨rb, off, rs, hf, hm⟩ := hm
          obtain ⟨rb', off', rs', res, k1, k2, k3⟩ := map_home h hg
          rw [hf] at k1; cases k1
          have hkk := keyOK_of_find g4
          obtain ⟨rr, hfk, hhit⟩ := findKey_sound hkt hk k3 g4 w
          have hck := checkKey_sound (f := f) hkt hkk hk false w
          unfold Hit at hhit
          split at hhit
          · cases g5
            refine .inr ⟨.tuple #[z0, goInt cl], _, f, .inl ?_, ?_, StR.map h hg (Nat.le_of_ble_eq_true hfl) hf k2 (k3.push hk (hz0 f) cl)⟩
            · simp only [execOp, ho, Instr.mapEntry, Sem.run_bind, run_underlying' hut, Result.andThen_ok, hm, run_getMap k2, hck, hfk, hzr, run_setMap k2, Sem.run_pure]
            · simp [VR, VRs, hz0 f, goInt]
          · rename_i j v0 s0 j' rv
            obtain ⟨rfl, e1, _, q, e2, e3⟩ := hhit
            simp at e2
            cases g5
            obtain ⟨en, e4, e5, e6, e7⟩ := k3.2 _ q v0 s0 e2
            have e4' : res[j']? = some en := by simpa using e4
            have hst := keyStays (P := P) (f := f) hkk e3 hk e5 w
            refine .inr ⟨.tuple #[rv, goInt s0], putO w rb (.map (res.modify j' fun e => { e with key := a.eval z }) cl), f, .inl ?_, ?_, StR.map h hg (Nat.le_of_ble_eq_true hfl) hf k2 ?_⟩
            · simp only [execOp, ho, Instr.mapEntry, Sem.run_bind, run_underlying' hut, Result.andThen_ok, hm, run_getMap k2, hck, hfk, e4', Option.map_some, Option.getD_some, hst, run_setMap k2, Sem.run_pure, e7]
            · simp [VR, VRs, e1, goInt]
            · exact k3.set e2 hk e6 (fun e => { e with key := a.eval z }) (fun e he => by rw [e4'] at he; cases he; exact ⟨rfl, rfl, rfl⟩)
          · exact hhit.elim
        · cases hv
    · cases hv
  · cases hok

theorem findS_sound {s : Int} : ∀ {es : List (AV × AV × Nat)} {rs : List MapEntry} {i j : Nat}, EsR P f es rs → findS s es i = some j → i ≤ j ∧ ∃ k v b, es[j - i]? = some (k, v, b) ∧ rs.findIdx? (fun e => (e.born : Int) == s) = some (j - i)
  | [], _, _, _, _, h => by simp [findS] at h
  | (k, v, b) :: es, [], _, _, h, _ => by have := h.1; simp at this
  | (k, v, b) :: es, e :: rs, i, j, he, h => by
    obtain ⟨e', g1, g2, g3, g4⟩ := he.2 0 k v b rfl
    simp at g1; subst g1
    simp only [findS] at h
    have he' : EsR P f es rs := ⟨by simpa using he.1, fun j a b c hj => by simpa using he.2 (j + 1) a b c (by simpa using hj)⟩
    rw [List.findIdx?_cons]
    by_cases hb : (b : Int) = s
    · simp [hb] at h; subst h
      refine ⟨Nat.le_refl _, k, v, b, by simp, ?_⟩
      simp [g4, hb]
    · simp [hb] at h
      obtain ⟨h1, k', v', b', h2, h3⟩ := findS_sound he' h
      refine ⟨by omega, k', v', b', ?_, ?_⟩
      · rw [show j - i = (j - (i + 1)) + 1 by omega]; simpa using h2
      · have : ((e.born : Int) == s) = false := by rw [g4]; simpa using hb
        simp only [this, Bool.false_eq_true, if_false, h3, Option.map_some]
        congr 1; omega

theorem l_entryStore {m s x : AOpd} (h : Rel P f σ w) (hok : ok_entryStore m s x o.op = true) (ha : TR P f tm a.tmps) (hv : op_entryStore m s x tm σ = some (v, σ')) : LoudOK P f o a v σ σ' w := by
  unfold ok_entryStore at hok
  split at hok
  · rename_i t y z u ho
    simp only [Bool.and_eq_true] at hok
    obtain ⟨⟨hy, hz⟩, hu⟩ := hok
    replace hv := bind_some hv; obtain ⟨um, g1, hv⟩ := hv
    replace hv := bind_some hv; obtain ⟨us, g2, hv⟩ := hv
    replace hv := bind_some hv; obtain ⟨ux, g3, hv⟩ := hv
    have hm := opd_sound hy ha g1
    have hs := opd_sound hz ha g2
    have hx := opd_sound hu ha g3
    split at hv
    · rename_i b kk s0
      cases hfl : Nat.ble σ.floor b with
      | false => simp [hfl] at hv
      | true =>
        simp [hfl] at hv
        split at hv
        · rename_i es cl hg
          obtain ⟨i, g4, g5⟩ := bind_some hv
          simp only [VR] at hm hs
          obtain ⟨rb, off, rs, hf, hm⟩ := hm
          obtain ⟨rb', off', rs', res, k1, k2, k3⟩ := map_home h hg
          rw [hf] at k1; cases k1
          obtain ⟨_, k', v', b', e1, e2⟩ := findS_sound k3 g4
          simp at e1 e2
          rw [e1] at g5
          simp at g5
          obtain ⟨rfl, rfl⟩ := g5
          obtain ⟨en, e4, e5, e6, e7⟩ := k3.2 _ k' v' b' e1
          have e4' : res[i]? = some en := by simpa using e4
          refine .inr ⟨undef, putO w rb (.map (res.modify i fun e => { e with val := a.eval u }) cl), f, .inr ⟨?_, rfl⟩, VR_undef, StR.map h hg (Nat.le_of_ble_eq_true hfl) hf k2 (k3.set e1 e5 hx (fun e => { e with val := a.eval u }) (fun e he => by rw [e4'] at he; cases he; exact ⟨rfl, rfl, rfl⟩))⟩
          have e2' : res.findIdx? (fun e => (e.born : Int) == s0) = some i := by
            have e8 : res = res.toList.toArray := by simp
            rw [e8, List.findIdx?_toArray]; exact e2
          simp only [execOp, ho, Instr.entryStore, Sem.run_bind, Result.andThen_ok, hm, hs, asInt, asIntOf, Sem.run_pure, run_getMap k2, e2', run_setMap k2]
        · cases hv
    · cases hv
  · cases hok

theorem l_delete {kn : Nat} {m k : AOpd} (h : Rel P f σ w) (hok : ok_delete P kn m k o.op = true) (ha : TR P f tm a.tmps) (hv : op_delete kn m k tm σ = some (v, σ')) : LoudOK P f o a v σ σ' w := by
  unfold ok_delete at hok
  split at hok
  · rename_i args argTypes ho
    split at hok
    · rename_i p q t hargs ht
      simp only [Bool.and_eq_true] at hok
      obtain ⟨⟨hp, hq⟩, hmt⟩ := hok
      have hargs' : args = #[p, q] := by cases args; simpa using hargs
      subst hargs'
      obtain ⟨kt, e, hut, hkt, _⟩ := okMapT_inv hmt
      obtain ⟨cs0, hrun⟩ := run_builtin (P := P) (a := a) ho w
      have ht0 : argTypes[0]? = some t := ht
      replace hv := bind_some hv; obtain ⟨um, g1, hv⟩ := hv
      replace hv := bind_some hv; obtain ⟨uk, g2, hv⟩ := hv
      have hm := opd_sound hp ha g1
      have hk := opd_sound hq ha g2
      split at hv
      · rename_i b
        cases hfl : Nat.ble σ.floor b with
        | false => simp [hfl] at hv
        | true =>
          simp [hfl] at hv
          split at hv
          · rename_i es cl hg
            obtain ⟨r, g4, g5⟩ := map_some hv
            simp only [VR] at hm
            obtain ⟨rb, off, rs, hf, hm⟩ := hm
            obtain ⟨rb', off', rs', res, k1, k2, k3⟩ := map_home h hg
            rw [hf] at k1; cases k1
            have hkk := keyOK_of_find g4
            obtain ⟨rr, hfk, hhit⟩ := findKey_sound hkt hk k3 g4 w
            have hck := checkKey_sound (f := f) hkt hkk hk res.isEmpty w
            unfold Hit at hhit
            split at hhit
            · cases g5
              refine .inr ⟨.tuple #[], putO w rb (.map res cl), f, .inl ?_, VR_noResult, ?_⟩
              · rw [hrun]
                simp only [builtin, Builtin.delete_, Sem.run_bind, List.map_toArray, List.map_cons, List.map_nil, ht0, List.getElem?_toArray, List.getElem?_cons_zero, List.getElem?_cons_succ, run_underlying' hut, Result.andThen_ok, hm, run_getMap k2, hck, hfk, run_setMap k2, Sem.run_pure]
              · have := StR.map h hg (Nat.le_of_ble_eq_true hfl) hf k2 (cl' := cl) k3
                refine ⟨h.grown (fun i hi => ?_), Sub.refl f, fun _ _ => rfl, Nat.le_refl _, rfl, by simp [putO], fun rbx hr hno => this.kept rbx hr hno, fun b o t h1 h2 => .inr ⟨b, o, t, h1, h2, rfl, fun h => ⟨h, id⟩⟩, rfl, rfl⟩
                by_cases e : i = rb
                · subst e; rw [putO_get k2, k2]
                · rw [putO_other _ _ e]
            · rename_i j v0 s0 j' rv
              obtain ⟨rfl, e1, _, q', e2, e3⟩ := hhit
              simp at e2
              cases g5
              have hlt := (List.getElem?_eq_some_iff.1 e2).1
              refine .inr ⟨.tuple #[], _, f, .inl ?_, VR_noResult, StR.map h hg (Nat.le_of_ble_eq_true hfl) hf k2 (k3.erase hlt)⟩
              rw [hrun]
              simp only [builtin, Builtin.delete_, Sem.run_bind, List.map_toArray, List.map_cons, List.map_nil, ht0, List.getElem?_toArray, List.getElem?_cons_zero, List.getElem?_cons_succ, run_underlying' hut, Result.andThen_ok, hm, run_getMap k2, hck, hfk, run_setMap k2, Sem.run_pure]
            · exact hhit.elim
          · cases hv
      · cases hv
    · cases hok
  · cases hok

end Go.AM
