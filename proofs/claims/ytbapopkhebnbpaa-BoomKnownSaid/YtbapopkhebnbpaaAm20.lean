/- Code: each form of it is sound, when the parts are. -/
import Derived.Test.YtbapopkhebnbpaaAm19
namespace Go.AM
open Go

variable {P : Program} {f f' : FM} {tm tm' : T AV} {σ σ' : AS} {w w' w1 : World} {a : Act} {v : AV} {B : Base} {k : List Item} {cs : List Frame} {c : Frame} {G : Fns} {N sz n : Nat}

theorem StR.grow (h : Rel P f σ w) (hw : ∀ i, i < w.heap.size → w'.heap[i]? = w.heap[i]?) (hsz : w.heap.size ≤ w'.heap.size) (hout : w'.output = w.output) (hos : w'.os = w.os) : StR P f σ w f σ w' where
  rel := h.grown hw
  sub := Sub.refl f
  off _ _ := rfl
  nx := Nat.le_refl _
  fl := rfl
  sz := hsz
  kept rb hr _ := hw rb hr
  fresh b o t h1 h2 := .inr ⟨b, o, t, h1, h2, rfl, fun h => ⟨h, id⟩⟩
  out := hout
  os := hos

/-- An object is let go, and turned in the model. -/
theorem StR.gone (h : Rel P f σ w) {b : Nat} {ao : AObj} {t : Nat × Nat × Nat} (hg : σ.heap.get b = some ao) (hrw : ao.rw = true) (hfl : σ.floor ≤ b) (ht : f b = some t)
    (hw : ∀ i, i ≠ t.1 → w'.heap[i]? = w.heap[i]?) (hsz : w'.heap.size = w.heap.size) (hout : w'.output = w.output) (hos : w'.os = w.os) : StR P f σ w f { σ with heap := σ.heap.put b none } w' where
  rel := by
    refine ⟨fun x o hx => ?_, fun x o hx => ?_, fun x x' o1 o2 t1 t2 g1 g2 hne hr e1 e2 => ?_⟩
    · simp only [T.get_put] at hx
      split at hx
      · cases hx
      · rename_i hne
        have hr := h.obj x o hx
        obtain ⟨u, hu, _⟩ := hr.home
        exact hr.congr hu (hw _ (Ne.symm (h.inj b x ao o t u hg hx (Ne.symm hne) hrw ht hu)))
    · simp only [T.get_put] at hx
      split at hx
      · cases hx
      · exact h.lt x o hx
    · simp only [T.get_put] at g1 g2
      split at g1
      · cases g1
      · split at g2
        · cases g2
        · exact h.inj x x' o1 o2 t1 t2 g1 g2 hne hr e1 e2
  sub := Sub.refl f
  off _ _ := rfl
  nx := Nat.le_refl _
  fl := rfl
  sz := by rw [hsz]; exact Nat.le_refl _
  kept rb _ hno := hw rb (Ne.symm (hno b ao t hg hrw hfl ht))
  fresh x o' u hx hu := by
    simp only [T.get_put] at hx
    split at hx
    · cases hx
    · exact .inr ⟨x, o', u, hx, hu, rfl, fun h => ⟨h, id⟩⟩
  out := hout
  os := hos

theorem After.trans {x : AExit} {f1 : FM} {σ1 : AS} {w1 : World} {tm1 : T AV} {a1 : Act} {m : Machine} (h : Leaves P f σ w N B sz f1 σ1 w1 tm1 a1) (k1 : After P f1 σ1 w1 N B sz k cs x tm' σ' m) : After P f σ w N B sz k cs x tm' σ' m := by
  obtain ⟨a', w', f', h1, h2⟩ := k1
  exact ⟨a', w', f', h1, h.trans h2⟩
/-- The same landing, seen from a shorter list. -/
theorem After.pop {x : AExit} {k1 : List Item} {m : Machine} (h : After P f σ w N B sz k1 cs x tm' σ' m) (hx : x ≠ .normal) (hk : ∀ id, exitTo id k1 = exitTo id k) : After P f σ w N B sz k cs x tm' σ' m := by
  obtain ⟨a', w', f', h1, h2⟩ := h
  refine ⟨a', w', f', ?_, h2⟩
  cases x with
  | normal => exact absurd rfl hx
  | exit id => obtain ⟨k', e1, e2⟩ := h1; exact ⟨k', e1, e2.trans (hk id)⟩
  | ret => exact h1

theorem starts_code {code : Code} {it : Item} (h : Starts code it) (hn : ∀ b, code ≠ .loop b) : it = .code code := by
  rcases h with h | ⟨b, h, _⟩
  · exact h
  · exact absurd h (hn b)

theorem Leaves.ready {tm1 : T AV} {f1 : FM} {σ1 : AS} {w1 : World} {a1 : Act} {cd : ACode} (h : Leaves P f σ w N B sz f1 σ1 w1 tm1 a1) (ha : Abs σ σ1) {cd' : ACode} (hn : noRange cd = true → noRange cd' = true) (hr : noRange cd = true ∨ RoundOK f σ B) :
    noRange cd' = true ∨ RoundOK f1 σ1 B := hr.imp hn fun hh => hh.step h.st.sub ha

/-- A region that is drawn. -/
def DrawsOK (P : Program) : Prop := ∀ G, Sound P G → AbsOK G → ∀ n ops kept steps, okDraw P n ops kept steps = true → ∀ tm σ tm' σ', runSteps G σ.next steps tm { σ with next := σ.next + kept } = some (tm', σ') →
  ∀ f w N (B : Base) sz a k cs id, Pre P f σ w N B sz tm a → n ≤ sz →
    To P (lone (B.fr a (.code (.region id ops true) :: k)) cs w) (fun m => ∃ a' w' f', m = lone (B.fr a' k) cs w' ∧ Leaves P f σ w N B sz f' σ' w' tm' a')

variable {it : Item} {x : AExit}

theorem c_region (hD : DrawsOK P) (hS : Sound P G) (hA : AbsOK G) {d : Bool} {kept : Nat} {steps : List Stp} {code : Code} (h : exRegion kept steps G tm σ = some (x, tm', σ')) (hok : okC P n (.region d kept steps) code = true) (hs : Starts code it)
    (hp : Pre P f σ w N B sz tm a) (hn : n ≤ sz) : To P (lone (B.fr a (it :: k)) cs w) (After P f σ w N B sz k cs x tm' σ') := by
  cases code <;> first | (exact absurd hok Bool.false_ne_true) | skip
  rename_i id ops d'
  have hit := starts_code hs (fun b e => by cases e)
  subst hit
  have hok : ((d == d') && (bif d then okDraw P n ops kept steps else Nat.beq kept 0 && okPlain P n ops steps ops.toList)) = true := hok
  rw [Bool.and_eq_true] at hok
  obtain ⟨h1, h2⟩ := hok
  have h1 : d = d' := by simpa using h1
  subst h1
  unfold exRegion at h
  obtain ⟨⟨t1, σ1⟩, hr, h⟩ := map_some h
  cases h
  cases d with
  | true => exact (hD G hS hA n ops kept steps h2 _ _ _ _ hr f w N B sz a k cs id hp hn).mono fun _ ⟨a', w', f', e1, e2⟩ => ⟨a', w', f', e1, e2⟩
  | false =>
    have h2 : (Nat.beq kept 0 && okPlain P n ops steps ops.toList) = true := h2
    rw [Bool.and_eq_true] at h2
    have hk : kept = 0 := Nat.eq_of_beq_eq_true h2.1
    subst hk
    refine To.step st_region ?_
    have hg := plain_go (k := k) (cs := cs) hS hA σ.next steps ops.toList 0 f tm σ w a h2.2 (fun j o hj => by simpa using hj) hr hp hn
    rw [show ops.toList.length = ops.size from rfl, ← List.range_eq_range'] at hg
    refine hg.bind fun m hm => ?_
    obtain ⟨a', w', f', rfl, e2⟩ := hm
    exact To.step st_region_end (To.here ⟨a', w', f', rfl, e2⟩)

theorem c_seq (hS : Sound P G) (hA : AbsOK G) {c1 c2 : ACode} {code : Code} (h : exSeq c1 c2 G tm σ = some (x, tm', σ')) (hok : okC P n (.seq c1 c2) code = true) (hs : Starts code it)
    (hp : Pre P f σ w N B sz tm a) (hn : n ≤ sz) (hr : noRange (.seq c1 c2) = true ∨ RoundOK f σ B) : To P (lone (B.fr a (it :: k)) cs w) (After P f σ w N B sz k cs x tm' σ') := by
  cases code <;> first | (exact absurd hok Bool.false_ne_true) | skip
  rename_i d1 d2
  have hit := starts_code hs (fun b e => by cases e)
  subst hit
  have hok : (okC P n c1 d1 && okC P n c2 d2) = true := hok
  rw [Bool.and_eq_true] at hok
  have hn1 : noRange (.seq c1 c2) = true → noRange c1 = true ∧ noRange c2 = true := fun e => by
    have e : (noRange c1 && noRange c2) = true := e
    rwa [Bool.and_eq_true] at e
  obtain ⟨⟨x1, t1, σ1⟩, h1, h⟩ := bind_some h
  refine To.step st_seq ((hS.exec _ _ _ _ _ _ h1 n d1 hok.1 f w N B sz a _ _ _ (.inl rfl) hp hn (hr.imp (fun e => (hn1 e).1) id)).bind fun m hm => ?_)
  have hex : ∀ {y : AExit} {t2 : T AV} {σ2 : AS}, y ≠ .normal → After P f σ w N B sz (.code d2 :: k) cs y t2 σ2 m → To P m (After P f σ w N B sz k cs y t2 σ2) := fun hy hh => To.here (hh.pop hy fun _ => rfl)
  cases x1 with
  | exit j => cases h; exact hex (by simp) hm
  | ret => cases h; exact hex (by simp) hm
  | normal =>
    obtain ⟨a1, w1, f1, e1, e2⟩ := hm
    have e1 : m = lone (B.fr a1 (.code d2 :: k)) cs w1 := e1
    subst e1
    refine (hS.exec _ _ _ _ _ _ h n d2 hok.2 f1 w1 N B sz a1 _ k cs (.inl rfl) (e2.pre hp) hn (e2.ready (hA.exec _ _ _ _ _ _ h1) (fun e => (hn1 e).2) hr)).mono fun m hm => After.trans e2 hm

theorem c_cond (hS : Sound P G) {y : AOpd} {c1 c2 : ACode} {code : Code} (h : exCond y c1 c2 G tm σ = some (x, tm', σ')) (hok : okC P n (.cond y c1 c2) code = true) (hs : Starts code it)
    (hp : Pre P f σ w N B sz tm a) (hn : n ≤ sz) (hr : noRange (.cond y c1 c2) = true ∨ RoundOK f σ B) : To P (lone (B.fr a (it :: k)) cs w) (After P f σ w N B sz k cs x tm' σ') := by
  cases code <;> first | (exact absurd hok Bool.false_ne_true) | skip
  rename_i z d1 d2
  have hit := starts_code hs (fun b e => by cases e)
  subst hit
  have hok : (okO y z && okC P n c1 d1 && okC P n c2 d2) = true := hok
  simp only [Bool.and_eq_true] at hok
  have hn1 : noRange (.cond y c1 c2) = true → noRange c1 = true ∧ noRange c2 = true := fun e => by
    have e : (noRange c1 && noRange c2) = true := e
    rwa [Bool.and_eq_true] at e
  obtain ⟨u, h1, h⟩ := bind_some h
  have hv := opd_sound hok.1.1 hp.tr h1
  cases u <;> first | (cases h; done) | skip
  rename_i t
  simp only [VR] at hv
  refine To.step (st_cond hv) ?_
  cases t with
  | true => exact hS.exec _ _ _ _ _ _ h n d1 hok.1.2 f w N B sz a _ _ _ (.inl rfl) hp hn (hr.imp (fun e => (hn1 e).1) id)
  | false => exact hS.exec _ _ _ _ _ _ h n d2 hok.2 f w N B sz a _ _ _ (.inl rfl) hp hn (hr.imp (fun e => (hn1 e).2) id)

theorem c_block (hS : Sound P G) {i : Nat} {c1 : ACode} {code : Code} (h : exBlock i c1 G tm σ = some (x, tm', σ')) (hok : okC P n (.block i c1) code = true) (hs : Starts code it)
    (hp : Pre P f σ w N B sz tm a) (hn : n ≤ sz) (hr : noRange (.block i c1) = true ∨ RoundOK f σ B) : To P (lone (B.fr a (it :: k)) cs w) (After P f σ w N B sz k cs x tm' σ') := by
  cases code <;> first | (exact absurd hok Bool.false_ne_true) | skip
  rename_i i' d1
  have hit := starts_code hs (fun b e => by cases e)
  subst hit
  have hok : (Nat.beq i i' && okC P n c1 d1) = true := hok
  rw [Bool.and_eq_true] at hok
  have hi := Nat.eq_of_beq_eq_true hok.1
  subst hi
  obtain ⟨⟨x1, t1, σ1⟩, h1, h⟩ := map_some h
  refine To.step st_block ((hS.exec _ _ _ _ _ _ h1 n d1 hok.2 f w N B sz a _ _ _ (.inl rfl) hp hn hr).bind fun m hm => ?_)
  cases x1 with
  | ret => cases h; obtain ⟨a1, w1, f1, e1, e2⟩ := hm; exact To.here ⟨a1, w1, f1, e1, e2⟩
  | normal =>
    cases h
    obtain ⟨a1, w1, f1, e1, e2⟩ := hm
    have e1 : m = lone (B.fr a1 (.inBlock i :: k)) cs w1 := e1
    subst e1
    exact To.step st_inBlock (To.here ⟨a1, w1, f1, rfl, e2⟩)
  | exit j =>
    have h : (bif Nat.beq j i then (AExit.normal, t1, σ1) else (.exit j, t1, σ1)) = (x, tm', σ') := h
    obtain ⟨a1, w1, f1, ⟨k', e1, e3⟩, e2⟩ := hm
    subst e1
    cases hj : Nat.beq j i with
    | true =>
      rw [hj] at h; cases h
      have hj := Nat.eq_of_beq_eq_true hj
      subst hj
      have e4 : exitTo j k' = some k := by rw [e3]; simp [exitTo]
      exact To.step (st_exit e4) (To.here ⟨a1, w1, f1, rfl, e2⟩)
    | false =>
      rw [hj] at h; cases h
      have hj := Nat.ne_of_beq_eq_false hj
      exact To.here ⟨a1, w1, f1, ⟨k', rfl, by rw [e3]; simp [exitTo, Ne.symm hj]⟩, e2⟩

theorem c_loop (hS : Sound P G) (hA : AbsOK G) {c1 : ACode} {code : Code} (h : exLoop c1 G tm σ = some (x, tm', σ')) (hok : okC P n (.loop c1) code = true) (hs : Starts code it)
    (hp : Pre P f σ w N B sz tm a) (hn : n ≤ sz) (hr : noRange (.loop c1) = true ∨ RoundOK f σ B) : To P (lone (B.fr a (it :: k)) cs w) (After P f σ w N B sz k cs x tm' σ') := by
  cases code <;> first | (exact absurd hok Bool.false_ne_true) | skip
  rename_i d1
  have hok1 : okC P n c1 d1 = true := hok
  obtain ⟨⟨x1, t1, σ1⟩, h1, h⟩ := bind_some h
  have hst : step P (lone (B.fr a (it :: k)) cs w) = .next (lone (B.fr a (.code d1 :: .inLoop d1 :: k)) cs w) := by
    rcases hs with hs | ⟨b, hs, hs'⟩
    · subst hs; exact st_loop
    · cases hs; subst hs'; exact st_inLoop
  refine To.step hst ((hS.exec _ _ _ _ _ _ h1 n d1 hok1 f w N B sz a _ _ _ (.inl rfl) hp hn hr).bind fun m hm => ?_)
  cases x1 with
  | exit j => cases h; exact To.here (hm.pop (by simp) fun _ => rfl)
  | ret => cases h; exact To.here (hm.pop (by simp) fun _ => rfl)
  | normal =>
    obtain ⟨a1, w1, f1, e1, e2⟩ := hm
    have e1 : m = lone (B.fr a1 (.inLoop d1 :: k)) cs w1 := e1
    subst e1
    exact (hS.exec _ _ _ _ _ _ h n _ hok f1 w1 N B sz a1 _ k cs (.inr ⟨d1, rfl, rfl⟩) (e2.pre hp) hn (e2.ready (cd := c1) (hA.exec _ _ _ _ _ _ h1) (fun e => e) hr)).mono fun m hm => After.trans e2 hm

theorem c_scope (hS : Sound P G) {c1 : ACode} {code : Code} (h : exScope c1 G tm σ = some (x, tm', σ')) (hok : okC P n (.scope c1) code = true) (hs : Starts code it)
    (hp : Pre P f σ w N B sz tm a) (hn : n ≤ sz) (hr : noRange (.scope c1) = true ∨ RoundOK f σ B) : To P (lone (B.fr a (it :: k)) cs w) (After P f σ w N B sz k cs x tm' σ') := by
  cases code <;> first | (exact absurd hok Bool.false_ne_true) | skip
  rename_i d1
  have hit := starts_code hs (fun b e => by cases e)
  subst hit
  have hok : okC P n c1 d1 = true := hok
  have h1 : G.exec c1 tm σ = some (x, tm', σ') := h
  refine To.step st_scope ((hS.exec _ _ _ _ _ _ h1 n d1 hok f w N B sz a _ _ _ (.inl rfl) hp hn hr).bind fun m hm => ?_)
  cases x with
  | exit j => exact To.here (hm.pop (by simp) fun _ => rfl)
  | ret => exact To.here (hm.pop (by simp) fun _ => rfl)
  | normal =>
    obtain ⟨a1, w1, f1, e1, e2⟩ := hm
    have e1 : m = lone (B.fr a1 (.inScope d1 :: k)) cs w1 := e1
    subst e1
    exact To.step st_inScope (To.here ⟨a1, w1, f1, rfl, e2⟩)

end Go.AM
