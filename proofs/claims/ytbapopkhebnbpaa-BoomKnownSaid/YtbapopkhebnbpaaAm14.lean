/- Appending. And all that turns memory, together. -/
import Derived.Test.YtbapopkhebnbpaaAm13
import Derived.Room.AppendAsks
import Derived.Room.Entries
namespace Go.AM
open Go

variable {P : Program} {f : FM} {tm : T AV} {σ σ' : AS} {w w' : World} {a : Act} {v : AV} {o : Oper}

def stInto (b : Option Addr) (k : Nat) (l : List Value) : Sem Unit :=
  match b with
  | some ad => storeCells (ad.add k) l
  | none => pure ()

section
variable {t tx ty e : TypeId} {i : TypeInfo} {d : TypeDesc} (ht : P.underlying t = some (.slice e)) (hi : P.info? e = some i) (htx : P.underlying tx = some d) (hd : ∀ k, d ≠ .int k)
  {x : Value} {n : Nat} (hlen : Builtin.lenOf x = Sem.pure n)
include ht hi htx hd hlen

theorem append_room {b : Option Addr} {sLen sCap : Nat} (hle : sLen + n ≤ sCap) {new : Array Value} (hnew : (Builtin.firstCells i.size n x).run P w = .ok new w) :
    (Builtin.append_ #[t, tx] ty #[.slice b sLen sCap, x]).run P w = ((stInto b (sLen * i.size) new.toList).run P w).andThen fun _ w' => .ok (.slice b (sLen + n) sCap) w' := by
  have hz : (match d with | .int _ => true | _ => false) = false := by cases d <;> first | rfl | exact absurd rfl (hd _)
  have hl : (Builtin.lenOf x).run P w = .ok n w := by rw [hlen]; rfl
  unfold Builtin.append_
  simp only [Sem.run_bind, List.getElem?_toArray, List.getElem?_cons_zero, List.getElem?_cons_succ, run_underlying' ht, run_underlying' htx, run_sizeOf' hi, Result.andThen_ok, Sem.run_pure, hz, Bool.false_eq_true, if_false, hl, Sem.run_ite, if_pos hle]
  simp only [Bool.not_false, if_true, hnew, Result.andThen_ok]
  cases b with
  | none => rfl
  | some ad =>
    simp only [Sem.run_bind, stInto]
    cases (storeCells (ad.add (sLen * i.size)) new.toList).run P w <;> rfl

theorem append_grow {b : Option Addr} {sLen sCap : Nat} (hg : sCap < sLen + n) (h63 : ((sLen + n : Nat) : Int) ≤ 9223372036854775807) (hby : 0 < i.bytes) (hfit : Builtin.nextslicecap (sLen + n) sCap * i.bytes ≤ 281474976710656)
    {z : Value} (hz0 : i.zero = some z) {old new : Array Value} (hold : (Builtin.firstCells i.size sLen (.slice b sLen sCap)).run P w.drew = .ok old w.drew) (hnew : (Builtin.firstCells i.size n x).run P w.drew = .ok new w.drew) :
    (Builtin.append_ #[t, tx] ty #[.slice b sLen sCap, x]).run P w = .ok (.slice (some ⟨w.heap.size, 0, none⟩) (sLen + n) (grownCap w (sLen + n) sCap e))
      (w.drew.alloc (.cells (old ++ new ++ Builtin.zeroCells z.cells (grownCap w (sLen + n) sCap e - (sLen + n))) e)) := by
  have hz : (match d with | .int _ => true | _ => false) = false := by cases d <;> first | rfl | exact absurd rfl (hd _)
  have hl : (Builtin.lenOf x).run P w = .ok n w := by rw [hlen]; rfl
  have hn : ¬ (sLen + n ≤ sCap) := by omega
  have hch : (choose (.appendCap (sLen + n) sCap e)).run P w = .ok (grownCap w (sLen + n) sCap e) w.drew := rfl
  have hzv : ∀ w, (zeroValue e).run P w = .ok z w := fun w => by simp [zeroValue, run_typeInfo' hi, hz0]
  have hti : ∀ w, (typeInfo e).run P w = .ok i w := fun w => run_typeInfo' hi w
  have h1 : ¬ (((sLen + n : Nat) : Int) > IntKind.i64.max ∧ (False ∨ i.bytes = 0)) := by
    intro hh
    rcases hh.2 with h | h
    · exact h
    · omega
  have h2 : ¬ (Builtin.nextslicecap (sLen + n) sCap * i.bytes > 2 ^ 48) := by
    have : (2 : Nat) ^ 48 = 281474976710656 := by decide
    omega
  unfold Builtin.append_
  simp only [Sem.run_bind, List.getElem?_toArray, List.getElem?_cons_zero, List.getElem?_cons_succ, run_underlying' ht, run_underlying' htx, run_sizeOf' hi, Result.andThen_ok, Sem.run_pure, hz, Bool.false_eq_true, if_false, hl, Sem.run_ite, if_neg hn, hti]
  simp only [if_neg h1, if_neg h2, Bool.not_false, if_true, hch, Result.andThen_ok, run_askRoom, hold, hnew, hzv, newRow, run_newObj, hti]
  simp only [Sem.run_bind, hch, Result.andThen_ok, run_askRoom, hold, hnew, hzv, newRow, run_newObj, hti, Sem.run_pure]
  rfl
end

/-- An object of the step's own is let go. -/
theorem StR.dropped (h : Rel P f σ w) (b : Nat) : StR P f σ w f { σ with heap := σ.heap.put b none } w where
  rel := by
    refine ⟨fun x o hx => ?_, fun x o hx => ?_, fun x x' o1 o2 t1 t2 g1 g2 hne hr e1 e2 => ?_⟩
    · simp only [T.get_put] at hx
      split at hx
      · cases hx
      · exact h.obj x o hx
    · simp only [T.get_put] at hx
      split at hx
      · cases hx
      · exact h.lt x o hx
    · simp only [T.get_put] at g1 g2
      split at g1
      · cases g1
      · split at g2
        · cases g2
        · exact h.inj x x' o1 o2 t1 t2 g1 g2 hne hr e1 e2
  sub := Sub.refl f
  off _ _ := rfl
  nx := Nat.le_refl _
  fl := rfl
  sz := Nat.le_refl _
  kept _ _ _ := rfl
  fresh x o' u hx hu := by
    simp only [T.get_put] at hx
    split at hx
    · cases hx
    · exact .inr ⟨x, o', u, hx, hu, rfl, fun h => ⟨h, id⟩⟩
  out := rfl
  os := rfl

/-- An object of the step's own goes on under a new number. -/
theorem StR.moved (h : Rel P f σ w) {b : Nat} {ao ao' : AObj} {t t' : Nat × Nat × Nat} (hg : σ.heap.get b = some ao) (hrw : ao.rw = true) (hfl : σ.floor ≤ b) (ht : f b = some t) (hn : f σ.next = none) (htt : t'.1 = t.1)
    (hw : ∀ i, i ≠ t.1 → w'.heap[i]? = w.heap[i]?) (hsz : w'.heap.size = w.heap.size) (hout : w'.output = w.output) (hos : w'.os = w.os) (ho : ObjR P (upd f σ.next t') w' σ.next ao') :
    StR P f σ w (upd f σ.next t') (({ σ with heap := σ.heap.put b none } : AS).alloc ao') w' where
  rel := by
    refine ⟨fun x o hx => ?_, fun x o hx => ?_, fun x x' o1 o2 t1 t2 g1 g2 hne hr e1 e2 => ?_⟩
    · simp only [AS.alloc, T.get_put] at hx
      split at hx
      · rename_i e; subst e; cases hx; exact ho
      · split at hx
        · cases hx
        · rename_i hne
          have hr := h.obj x o hx
          obtain ⟨u, hu, _⟩ := hr.home
          exact (hr.congr hu (hw _ (Ne.symm (h.inj b x ao o t u hg hx (Ne.symm hne) hrw ht hu)))).mono (sub_upd t' hn)
    · simp only [AS.alloc, T.get_put] at hx
      split at hx
      · rename_i e; subst e; exact Nat.lt_succ_self _
      · split at hx
        · cases hx
        · exact Nat.lt_succ_of_lt (h.lt x o hx)
    · have other : ∀ {x o}, σ.heap.get x = some o → x ≠ b → ∀ {u}, f x = some u → t.1 ≠ u.1 := fun {x o} hx hne {u} hu => h.inj b x ao o t u hg hx (Ne.symm hne) hrw ht hu
      simp only [AS.alloc, T.get_put] at g1 g2
      split at g1
      · rename_i e; subst e
        rw [if_neg (Ne.symm hne)] at g2
        split at g2
        · cases g2
        · rename_i hx'
          rw [upd_same] at e1; cases e1
          rw [upd_other f t' (Ne.symm hne)] at e2
          rw [htt]
          exact other g2 hx' e2
      · rename_i hx1
        rw [upd_other f t' hx1] at e1
        split at g1
        · cases g1
        · rename_i hx2
          split at g2
          · rename_i e; subst e
            rw [upd_same] at e2; cases e2
            rw [htt]
            exact Ne.symm (other g1 hx2 e1)
          · rename_i hx3
            rw [upd_other f t' hx3] at e2
            split at g2
            · cases g2
            · exact h.inj x x' o1 o2 t1 t2 g1 g2 hne hr e1 e2
  sub := sub_upd t' hn
  off x hx := upd_other f t' (fun e => hx ⟨by rw [e]; exact Nat.le_refl _, by rw [e]; exact Nat.lt_succ_self _⟩)
  nx := Nat.le_succ _
  fl := rfl
  sz := by rw [hsz]; exact Nat.le_refl _
  kept rb _ hno := hw rb (Ne.symm (hno b ao t hg hrw hfl ht))
  fresh x o' u hx hu := by
    simp only [AS.alloc, T.get_put] at hx
    split at hx
    · rename_i e; subst e; rw [upd_same] at hu; cases hu
      exact .inr ⟨b, ao, t, hg, ht, htt.symm, fun _ => ⟨hrw, fun _ => hfl⟩⟩
    · rename_i hne
      split at hx
      · cases hx
      · rw [upd_other f t' hne] at hu
        exact .inr ⟨x, o', u, hx, hu, rfl, fun h => ⟨h, id⟩⟩
  out := hout
  os := hos

theorem slice_first {rb p n esz : Nat} {ad : Addr} {rcap : Nat} {rl : List Value} (hz : n * esz = 0 ∨ ad = ⟨rb, p, none⟩) (hl : rl.length = n * esz) (hr : ∀ (j : Nat) v, rl[j]? = some v → w.cell? ((⟨rb, p, none⟩ : Addr).add j) = some v) (len : Nat) :
    (Builtin.firstCells esz n (.slice (some ad) len rcap)).run P w = .ok rl.toArray w := by
  simp only [Builtin.firstCells]
  rcases hz with hz | hz
  · rw [hz]
    have : rl = [] := List.length_eq_zero_iff.1 (by omega)
    subst this; rfl
  · rw [hz, ← hl]; exact run_loadCells_list w _ rl hr

theorem src_sound {esz : Nat} (h : Rel P f σ w) {x : AV} {rx : Value} (hx : VR P f x rx) {n : Nat} {new : List AV} (hs : srcCells σ esz x = some (n, new)) :
    Builtin.lenOf rx = Sem.pure n ∧ ∃ rl, VRs P f new rl ∧ rl.length = n * esz ∧ new.all AV.scalar = true ∧ ∀ w' : World, w'.heap = w.heap → (Builtin.firstCells esz n rx).run P w' = .ok rl.toArray w' := by
  unfold srcCells at hs
  split at hs
  · rename_i m c et ck
    simp only [VR] at hx
    cases hb : Nat.beq m 0 with
    | false => simp [hb] at hs
    | true =>
      simp [hb] at hs
      obtain ⟨rfl, rfl⟩ := hs
      rw [hx.2.2]
      exact ⟨rfl, [], by simp [VRs], by simp, rfl, fun w' _ => rfl⟩
  · rename_i b q m c et ck
    simp only [VR] at hx
    obtain ⟨rb, off, rs, ad, rcap, hf, rfl, hlc, hcr, hsl, _⟩ := hx
    obtain ⟨cs, g1, g2⟩ := map_some hs
    cases g2
    obtain ⟨k1, k1s, _, rl, k2, k3⟩ := readN_sound h g1 hf
    have hl : rl.length = n * esz := by rw [k2.length, k1]
    refine ⟨rfl, rl, k2, hl, k1s, fun w' hw => slice_first (rb := rb) (p := off + q) ?_ hl (fun j v hj => ?_) _⟩
    · rcases hsl with e | e
      · have : n = 0 := by omega
        exact .inl (by rw [this]; simp)
      · exact .inr e
    · have := k3 j v hj
      simpa only [World.cell?, hw] using this
  · rename_i str
    simp only [VR] at hx
    obtain ⟨b, rfl, hb⟩ := hx
    cases he : Nat.beq esz 1 with
    | false => simp [he] at hs
    | true =>
      simp [he] at hs
      obtain ⟨rfl, rfl⟩ := hs
      have he := Nat.eq_of_beq_eq_true he
      subst he
      have hlen : b.size = str.length := by rw [← hb, List.length_map]; rfl
      refine ⟨by rw [← hlen]; rfl, (b.data.map fun c => Value.int .u8 c.toNat).toList, bytes_sound hb f, by simp; exact hlen, map_int_scalar str .u8, fun w' _ => ?_⟩
      simp only [Builtin.firstCells]
      have : b.extract 0 str.length = b := by rw [← hlen]; simp
      rw [this]
      congr 1
  · cases hs

theorem l_append {et esz bytes : Nat} {x y : AOpd} (h : Rel P f σ w) (hdom : ∀ b, σ.next ≤ b → b < σ'.next → f b = none) (hok : ok_append P et esz bytes x y o.op = true) (ha : TR P f tm a.tmps) (hv : op_append et esz bytes x y tm σ = some (v, σ')) : LoudOK P f o a v σ σ' w := by
  unfold ok_append at hok
  split at hok
  · rename_i args argTypes ho
    split at hok
    · rename_i p q t u hargs hat
      simp only [Bool.and_eq_true] at hok
      obtain ⟨⟨⟨⟨⟨hp, hq⟩, hesz⟩, hbyt⟩, hu⟩, hu2⟩ := hok
      have hargs' : args = #[p, q] := by cases args; simpa using hargs
      have hat' : argTypes = #[t, u] := by cases argTypes; simpa using hat
      subst hargs'; subst hat'
      have hesz : 0 < esz := by simpa [Nat.blt_eq] using hesz
      have hbyt : 0 < bytes := by simpa [Nat.blt_eq] using hbyt
      split at hu
      · rename_i e hut
        simp only [Bool.and_eq_true] at hu
        obtain ⟨⟨he, hinfo⟩, hzs⟩ := hu
        have he := Nat.eq_of_beq_eq_true he
        subst he
        obtain ⟨i, hi, hi1, hi2⟩ : ∃ i, P.info? e = some i ∧ i.size = esz ∧ i.bytes = bytes := by
          unfold okInfo at hinfo
          split at hinfo
          · rename_i i hi
            simp only [Bool.and_eq_true] at hinfo
            exact ⟨i, hi, Nat.eq_of_beq_eq_true hinfo.1, Nat.eq_of_beq_eq_true hinfo.2⟩
          · cases hinfo
        subst hi1; subst hi2
        obtain ⟨z, hz0, hzsz⟩ : ∃ z, i.zero = some z ∧ z.cells.size = i.size := by
          rw [hi] at hzs
          simp only [Option.any_some] at hzs
          cases hz : i.zero with
          | none => rw [hz] at hzs; cases hzs
          | some z => rw [hz] at hzs; exact ⟨z, rfl, Nat.eq_of_beq_eq_true hzs⟩
        obtain ⟨d, htx, hd⟩ : ∃ d, P.underlying u = some d ∧ ∀ k, d ≠ .int k := by
          split at hu2
          · cases hu2
          · rename_i d hnot hd; exact ⟨d, hd, fun k e => hnot k e⟩
          · cases hu2
        replace hv := bind_some hv; obtain ⟨us, g1, hv⟩ := hv
        replace hv := bind_some hv; obtain ⟨ux, g2, hv⟩ := hv
        have h1 := opd_sound hp ha g1
        have h2 := opd_sound hq ha g2
        have hexec : (execOp a.eval o).run P w = ((Builtin.append_ #[t, u] o.type #[a.eval p, a.eval q]).run P w).andThen fun v w' => .ok (.value v) w' := by
          unfold execOp
          simp only [ho, resolve, invoke, builtin, List.map_toArray, List.map_cons, List.map_nil, Sem.run_bind, Sem.run_pure, Result.andThen_ok]
        cases us <;> simp only [appendV] at hv <;> first | (cases hv; done) | skip
        rename_i da len cap et' ck
        cases hee : (Nat.beq e et' || da.isNone) with
        | false => simp [hee] at hv
        | true =>
          simp only [hee, Bool.not_true, cond_false] at hv
          replace hv := bind_some hv; obtain ⟨⟨n, new⟩, g3, hv⟩ := hv
          obtain ⟨hlen, rl, s1, s2, s3, s4⟩ := src_sound h h2 g3
          dsimp only at hv
          cases hby : Nat.ble ((len + n) * i.bytes) 70368744177664 with
          | false => simp [hby] at hv
          | true =>
            simp only [hby, Bool.not_true, cond_false] at hv
            have hby := Nat.le_of_ble_eq_true hby
            have hle63 : len + n ≤ (len + n) * i.bytes := Nat.le_mul_of_pos_right _ hbyt
            -- growing: what is common
            have grow : ∀ (b : Option Addr) (rcap : Nat) (old : List AV) (ro : List Value) (σ0 : AS), a.eval p = .slice b len rcap → rcap < len + n → VRs P f old ro → ro.length = len * i.size → old.all AV.scalar = true →
                (∀ w', w'.heap = w.heap → (Builtin.firstCells i.size len (.slice b len rcap)).run P w' = .ok ro.toArray w') → StR P f σ w f σ0 w → σ0.next = σ.next →
                σ' = σ0.alloc (.cells (old ++ new) false) → v = .slc (some (σ0.next, 0)) (len + n) (len + n) e .tail → LoudOK P f o a v σ σ' w := by
              intro b rcap old ro σ0 e1 e2 e3 e4 e5 e6 e7 e7n e8 e9
              have hfit : Builtin.nextslicecap (len + n) rcap * i.bytes ≤ 281474976710656 := by
                have := Room.nextslicecap_le' e2
                have : Builtin.nextslicecap (len + n) rcap * i.bytes ≤ 2 * (len + n) * i.bytes := Nat.mul_le_mul_right _ this
                have : 2 * (len + n) * i.bytes = 2 * ((len + n) * i.bytes) := Nat.mul_assoc _ _ _
                omega
              have h63 : ((len + n : Nat) : Int) ≤ 9223372036854775807 := by omega
              have hrun := append_grow (ty := o.type) hut hi htx hd hlen (b := b) e2 h63 hbyt hfit hz0 (e6 w.drew rfl) (s4 w.drew rfl)
              · right
                have hcapeq : grownCap w (len + n) rcap e = (len + n) + w.tape w.drawn (.appendCap (len + n) rcap e) % (2 ^ 63 - (len + n)) := rfl
                have hcap : len + n ≤ grownCap w (len + n) rcap e := by rw [hcapeq]; exact Nat.le_add_right _ _
                generalize hG : grownCap w (len + n) rcap e = G at hcap hrun
                have hzl : (Builtin.zeroCells z.cells (G - (len + n))).size = (G - (len + n)) * i.size := by
                  simp [Builtin.zeroCells, hzsz]
                have hrow : (ro.toArray ++ rl.toArray ++ Builtin.zeroCells z.cells (G - (len + n))).size = G * i.size := by
                  simp only [Array.size_append, List.size_toArray, e4, s2, hzl]
                  rw [← Nat.add_mul, ← Nat.add_mul]
                  congr 1; omega
                have hfn : f σ0.next = none := by
                  refine hdom _ (by omega) ?_
                  rw [e8]; show σ0.next < σ0.next + 1; omega
                have hst : StR P f σ w (upd f σ0.next (w.heap.size, 0, G * i.size)) (σ0.alloc (.cells (old ++ new) false)) (w.drew.alloc (.cells (ro.toArray ++ rl.toArray ++ Builtin.zeroCells z.cells (G - (len + n))) e)) := by
                  refine e7.trans (StR.made e7.rel hfn rfl (fun i hi => alloc_old w.drew _ hi) (by simp) rfl rfl ?_)
                  refine ⟨w.heap.size, 0, G * i.size, _, e, (0, 0), upd_same _ _ _, alloc_new w.drew _, hrow, ?_, fun j x hx => ?_, fun _ => .inl rfl⟩
                  · rw [← hrow]
                    simp only [List.length_append, Array.size_append, List.size_toArray]
                    have := e3.length; have := s1.length
                    omega
                  · have hs0 : (old ++ new).all AV.scalar = true := by rw [List.all_append, e5, s3]; rfl
                    rw [List.all_eq_true] at hs0
                    refine ⟨hs0 _ (List.mem_of_getElem? hx), ?_⟩
                    obtain ⟨u0, k1, k2⟩ := (e3.append s1).get hx
                    refine ⟨u0, ?_, k2.mono (sub_upd _ hfn)⟩
                    have hlt := (List.getElem?_eq_some_iff.1 k1).1
                    simp at hlt
                    rw [Nat.zero_add, Array.getElem?_append_left (by simp; exact hlt)]
                    simpa using k1
                refine ⟨_, _, _, .inl (by rw [hexec, e1, hrun]; rfl), ?_, by rw [e8]; exact hst⟩
                rw [e9]
                simp only [VR]
                refine ⟨w.heap.size, 0, G * i.size, _, _, upd_same _ _ _, rfl, Nat.le_refl _, hcap, .inr (by simp), i.size, i.bytes, by simp [einfo, hi], .inr (by simp), ?_⟩
                trivial
            -- room: what is common
            have room : ∀ (b : Option Addr) (rcap : Nat), a.eval p = .slice b len rcap → len + n ≤ rcap → ∀ w', (stInto b (len * i.size) rl).run P w = .ok () w' →
                (execOp a.eval o).run P w = .ok (.value (.slice b (len + n) rcap)) w' := by
              intro b rcap e1 e2 w' e3
              rw [hexec, e1, append_room (ty := o.type) hut hi htx hd hlen e2 (s4 w rfl)]
              rw [show (stInto b (len * i.size) rl.toArray.toList).run P w = .ok () w' from e3]; rfl
            cases hfit : Nat.ble (len + n) cap with
            | true =>
              simp only [hfit, cond_true] at hv
              have hfit := Nat.le_of_ble_eq_true hfit
              rcases da with _ | ⟨b, q0⟩
              · simp only [VR] at h1
                obtain ⟨rfl, rfl, h1⟩ := h1
                have hn0 : n = 0 := by omega
                subst hn0
                simp only at hv; cases hv
                have hrl : rl = [] := List.length_eq_zero_iff.1 (by simpa using s2)
                subst hrl
                exact .inr ⟨_, w, f, .inl (room none 0 h1 (by omega) w rfl), by simp [VR], StR.refl h⟩
              · simp only [VR] at h1
                obtain ⟨rb, off, rs, ad, rcap, hf, h1, hlc, hcr, hsl⟩ := h1
                simp only at hv
                cases hn0 : Nat.beq n 0 with
                | true =>
                  simp only [hn0, cond_true] at hv
                  cases hv
                  have hn0 := Nat.eq_of_beq_eq_true hn0
                  subst hn0
                  have hrl : rl = [] := List.length_eq_zero_iff.1 (by simpa using s2)
                  subst hrl
                  refine .inr ⟨_, w, f, .inl (room _ rcap h1 (by omega) w rfl), ?_, StR.refl h⟩
                  simp only [VR]
                  have hee2 : ck = .tail → et' = e := fun _ => by simpa using (Nat.eq_of_beq_eq_true (by simpa using hee)).symm
                  have het : et' = e := by simpa using (Nat.eq_of_beq_eq_true (by simpa using hee)).symm
                  subst het
                  exact ⟨rb, off, rs, ad, rcap, hf, rfl, by omega, hcr, hsl⟩
                | false =>
                  simp only [hn0, cond_false] at hv
                  have hn0 := Nat.ne_of_beq_eq_false hn0
                  obtain ⟨σ1, g5, g6⟩ := map_some hv
                  cases g6
                  have het : et' = e := by simpa using (Nat.eq_of_beq_eq_true (by simpa using hee)).symm
                  subst het
                  have had : ad = ⟨rb, off + q0, none⟩ := by
                    rcases hsl.1 with e | e
                    · omega
                    · exact e
                  obtain ⟨w', k1, k2⟩ := run_write h g5 hf s1
                  refine .inr ⟨_, w', f, .inl (room _ rcap h1 (by omega) w' ?_), ?_, k2⟩
                  · simp only [stInto, had, addr_add]
                    rw [← Nat.add_assoc] at k1
                    exact k1
                  · simp only [VR]
                    exact ⟨rb, off, rs, ad, rcap, hf, rfl, by omega, hcr, hsl⟩
            | false =>
              simp only [hfit, cond_false] at hv
              have hfit : cap < len + n := by
                have := Nat.not_le_of_not_ble_eq_true (by rw [hfit]; simp : ¬ Nat.ble (len + n) cap = true)
                omega
              cases ck with
              | opaq => simp at hv
              | exact =>
                simp only at hv
                replace hv := bind_some hv; obtain ⟨old, g4, hv⟩ := hv
                cases hcb : Nat.ble (cap * i.bytes) 70368744177664 with
                | false => simp [hcb] at hv
                | true =>
                  simp only [hcb, Bool.not_true, cond_false] at hv
                  cases hsc : (old.all AV.scalar && new.all AV.scalar) with
                  | false => simp [hsc] at hv
                  | true =>
                    simp only [hsc, Bool.not_true, cond_false] at hv
                    simp only [Bool.and_eq_true] at hsc
                    cases hv
                    rcases da with _ | ⟨b, q0⟩
                    · simp only [VR] at h1
                      obtain ⟨rfl, rfl, h1⟩ := h1
                      simp at g4; subst g4
                      exact grow none 0 [] [] σ h1 (by omega) (by simp [VRs]) (by simp) rfl (fun _ _ => rfl) (StR.refl h) rfl rfl rfl
                    · simp only [VR] at h1
                      obtain ⟨rb, off, rs, ad, rcap, hf, h1, hlc, hcr, hsl⟩ := h1
                      simp only at g4
                      obtain ⟨k1, _, _, ro, k2, k3⟩ := readN_sound h g4 hf
                      have hrc : rcap = cap := hsl.2
                      refine grow (some ad) rcap old ro σ h1 (by omega) k2 (by rw [k2.length, k1]) hsc.1 (fun w' hw => slice_first (rb := rb) (p := off + q0) ?_ (by rw [k2.length, k1]) (fun j v hj => ?_) _) (StR.refl h) rfl rfl rfl
                      · rcases hsl.1 with e | e
                        · have : len = 0 := by omega
                          exact .inl (by rw [this]; simp)
                        · exact .inr e
                      · have := k3 j v hj
                        simpa only [World.cell?, hw] using this
              | tail =>
                simp only at hv
                rcases da with _ | ⟨b, q0⟩
                · simp at hv
                · simp only at hv
                  split at hv
                  · rename_i c hg
                    cases hc1 : (Nat.ble σ.floor b && Nat.beq (q0 + cap * i.size) c.length) with
                    | false => simp [hc1] at hv
                    | true =>
                      simp only [hc1, Bool.not_true, cond_false] at hv
                      simp only [Bool.and_eq_true] at hc1
                      have hfl := Nat.le_of_ble_eq_true hc1.1
                      have hcl := Nat.eq_of_beq_eq_true hc1.2
                      replace hv := bind_some hv; obtain ⟨old, g4, hv⟩ := hv
                      cases hsc : (old.all AV.scalar && new.all AV.scalar) with
                      | false => simp [hsc] at hv
                      | true =>
                        simp only [hsc, Bool.not_true, cond_false] at hv
                        simp only [Bool.and_eq_true] at hsc
                        cases hv
                        simp only [VR] at h1
                        obtain ⟨rb, off, rs, ad, rcap, hf, h1, hlc, hcr, hsl⟩ := h1
                        have het : et' = e := by simpa using (Nat.eq_of_beq_eq_true (by simpa using hee)).symm
                        subst het
                        have hrd : σ.readN b q0 (len * i.size) = some old := by simp [AS.readN, AS.cellsOf, hg, g4]
                        obtain ⟨k1, _, _, ro, k2, k3⟩ := readN_sound h hrd hf
                        have hl : ro.length = len * i.size := by rw [k2.length, k1]
                        by_cases hroom : len + n ≤ rcap
                        · -- in place
                          have had : ad = ⟨rb, off + q0, none⟩ := by
                            rcases hsl.1 with e | e
                            · omega
                            · exact e
                          obtain ⟨_, sz, by_, he1, he2, he3⟩ := hsl
                          simp only [einfo, hi, Option.map_some, Option.some.injEq, Prod.mk.injEq] at he1
                          obtain ⟨rfl, rfl⟩ := he1
                          have he2 : off + q0 + rcap * i.size = rs := by
                            rcases he2 with e | e
                            · omega
                            · exact e
                          obtain ⟨rb', off', rs', rc, et, fr, m1, m2, m3, m4, m5, m6⟩ := h.obj b _ hg
                          rw [hf] at m1; cases m1
                          have hnb : (len + n) * i.size ≤ rcap * i.size := Nat.mul_le_mul_right _ hroom
                          have hnl : rl.length = n * i.size := s2
                          have hfits : off + q0 + len * i.size + rl.length ≤ rc.size := by
                            rw [Nat.add_mul] at hnb; omega
                          obtain ⟨rc', n1, n2, n3, n4, n5, n6, n7⟩ := setCells_row rb rl (off + q0 + len * i.size) w m2 hfits
                          have hstore : (storeCells ⟨rb, off + q0 + len * i.size, none⟩ rl).run P w = .ok () (w.setCells rb (off + q0 + len * i.size) rl) := by
                            have := run_storeCells_cells (P := P) rb (off + q0 + len * i.size) rl 0 w (fun j hj => ?_) (fun j hj => ?_) (s1.oneCell hsc.2)
                            · simpa using this
                            · rw [cell_row m2]; simp; omega
                            · rw [frozen_row m2]; rcases m6 rfl with e | e <;> simp <;> omega
                          have hfn : f σ.next = none := hdom _ (Nat.le_refl _) (by show σ.next < σ.next + 1; omega)
                          have hst := StR.moved (t' := (rb, off + q0, rs)) h hg rfl hfl hf hfn rfl n4 n5 n6 n7 (ao' := .cells (old ++ new) false) (by
                            refine ⟨rb, off + q0, rs, rc', et, fr, upd_same _ _ _, n1, by omega, ?_, fun j x hx => ?_, m6⟩
                            · simp only [List.length_append]
                              have := s1.length
                              rw [Nat.add_mul] at hnb; omega
                            · have hs0 : (old ++ new).all AV.scalar = true := by rw [List.all_append, hsc.1, hsc.2]; rfl
                              rw [List.all_eq_true] at hs0
                              refine ⟨hs0 _ (List.mem_of_getElem? hx), ?_⟩
                              rw [List.getElem?_append] at hx
                              split at hx
                              · rename_i hj
                                obtain ⟨u0, k4, k5⟩ := k2.get hx
                                refine ⟨u0, ?_, k5.mono (sub_upd _ hfn)⟩
                                rw [n3, if_neg (by omega)]
                                have := k3 j u0 k4
                                rw [addr_add, cell_row m2] at this
                                exact this
                              · rename_i hj
                                obtain ⟨u0, k4, k5⟩ := s1.get hx
                                refine ⟨u0, ?_, k5.mono (sub_upd _ hfn)⟩
                                have hlt := (List.getElem?_eq_some_iff.1 k4).1
                                rw [n3, if_pos (by omega), show off + q0 + j - (off + q0 + len * i.size) = j - old.length by omega]
                                exact k4)
                          refine .inr ⟨_, _, _, .inl (room _ rcap h1 hroom _ (by simp only [stInto, had, addr_add]; exact hstore)), ?_, hst⟩
                          simp only [VR]
                          refine ⟨rb, off + q0, rs, ad, rcap, upd_same _ _ _, rfl, Nat.le_refl _, hroom, .inr had, i.size, i.bytes, by simp [einfo, hi], .inr ?_, he3⟩
                          simpa using he2
                        · refine grow (some ad) rcap old ro { σ with heap := σ.heap.put b none } h1 (by omega) k2 hl hsc.1 (fun w' hw => slice_first (rb := rb) (p := off + q0) ?_ hl (fun j v hj => ?_) _) (StR.dropped h b) rfl rfl rfl
                          · rcases hsl.1 with e | e
                            · have : len = 0 := by omega
                              exact .inl (by rw [this]; simp)
                            · exact .inr e
                          · have := k3 j v hj
                            simpa only [World.cell?, hw] using this
                  · cases hv
      · cases hu
    · cases hok
  · cases hok

theorem l_sameBytes {x : AOpd} (h : Rel P f σ w) (hok : ok_sameBytes P x o.op = true) (ha : TR P f tm a.tmps) (hv : op_sameBytes x tm σ = some (v, σ')) : LoudOK P f o a v σ σ' w := by
  unfold ok_sameBytes at hok
  split at hok
  · rename_i s t y ho
    simp only [Bool.and_eq_true] at hok
    obtain ⟨⟨hy, hst⟩, hu⟩ := hok
    have hst := Nat.eq_of_beq_eq_true hst
    subst hst
    split at hu
    · rename_i e hu'
      split at hu
      · rename_i hue
        obtain ⟨u, g1, hv⟩ := bind_some hv
        have h1 := opd_sound hy ha g1
        split at hv
        · rename_i b q l c et ck
          split at hv
          · rename_i cs hg
            cases hc : (Nat.ble σ.floor b && Nat.blt 0 l) with
            | false => simp [hc] at hv
            | true =>
              simp only [hc, cond_true] at hv
              cases hv
              simp only [Bool.and_eq_true] at hc
              have hfl := Nat.le_of_ble_eq_true hc.1
              have hl : 0 < l := by simpa [Nat.blt_eq] using hc.2
              have h1' := h1
              simp only [VR] at h1
              obtain ⟨rb, off, rs, ad, rcap, hf, h1, hlc, hcr, hsl⟩ := h1
              have had : ad = ⟨rb, off + q, none⟩ := by
                rcases hsl.1 with e | e
                · omega
                · exact e
              subst had
              obtain ⟨rb', off', rs', rc, et', fr, m1, m2, m3, m4, m5, m6⟩ := h.obj b _ hg
              rw [hf] at m1; cases m1
              have hget : (w.freeze ⟨rb, rc.size, none⟩ 1).heap[rb]? = some (.cells rc et' (if fr.1 == fr.2 then (rc.size, rc.size + 1) else (min fr.1 rc.size, max fr.2 (rc.size + 1)))) := by
                unfold World.freeze
                rw [if_neg (by decide)]
                show (w.heap.modify rb _)[rb]? = _
                rw [Array.getElem?_modify, if_pos rfl, m2]
                rfl
              refine .inr ⟨a.eval y, w.freeze ⟨rb, rc.size, none⟩ 1, f, .inl ?_, h1', ?_⟩
              · have hsh : w.shape? rb = some (et', rc.size) := by simp [World.shape?, m2]
                simp only [execOp, ho, convert, Sem.run_bind, run_underlying' hu', Result.andThen_ok, h1, run_underlying' hue, beq_self_eq_true, markStringish, run_shape, hsh, run_freeze, Sem.run_pure]
              · have hb : ∀ i, i ≠ rb → (w.freeze ⟨rb, rc.size, none⟩ 1).heap[i]? = w.heap[i]? := fun i hi => freeze_heap w rb _ 1 (by decide) i hi
                have := StR.turned (w' := w.freeze ⟨rb, rc.size, none⟩ 1) h hg rfl hfl hf hb (by unfold World.freeze; rw [if_neg (by decide)]; simp) (by unfold World.freeze; rw [if_neg (by decide)]) (by unfold World.freeze; rw [if_neg (by decide)])
                  (ao' := .cells cs false) ⟨rb, off, rs, rc, et', _, hf, hget, m3, m4, m5, fun _ => by
                    by_cases e : fr.1 = fr.2
                    · right; simp [e]; omega
                    · right
                      rcases m6 rfl with e' | e'
                      · exact absurd e' e
                      · simp [e]; omega⟩
                refine ⟨⟨fun x ob hx => ?_, h.lt, h.inj⟩, Sub.refl f, fun _ _ => rfl, Nat.le_refl _, rfl, this.sz, this.kept, fun b o t h1 h2 => .inr ⟨b, o, t, h1, h2, rfl, fun h => ⟨h, id⟩⟩, this.out, this.os⟩
                by_cases ex : x = b
                · subst ex
                  rw [hg] at hx; cases hx
                  exact this.rel.obj x _ (by simp [T.get_put])
                · exact this.rel.obj x ob (by simp [T.get_put, ex, hx])
          · cases hv
        · cases hv
      · cases hu
    · cases hu
  · cases hok

/-- ALL THAT TURNS MEMORY. -/
theorem loud_sound {ao : AOp} (hc : cls ao = 3) (hcall : callParts ao = none) (h : Rel P f σ w) (hdom : ∀ b, σ.next ≤ b → b < σ'.next → f b = none) (hok : okOp P ao o.op = true) (ha : TR P f tm a.tmps) (hv : opV ao tm σ = some (v, σ')) : LoudOK P f o a v σ σ' w := by
  cases ao <;> first | (simp [cls] at hc; done) | (simp [callParts] at hcall; done) | skip
  case store => exact l_store h hok ha hv
  case sameBytes => exact l_sameBytes h hok ha hv
  case mapUpdate => exact l_mapUpdate h hok ha hv
  case mapEntry => exact l_mapEntry h hok ha hv
  case entryStore => exact l_entryStore h hok ha hv
  case append => exact l_append h hdom hok ha hv
  case copy => exact l_copy h hok ha hv
  case clear => exact l_clear h hok ha hv
  case delete => exact l_delete h hok ha hv

/-- ANY OPERATION BUT A CALL. -/
theorem op_sound {ao : AOp} (hcall : callParts ao = none) (h : Rel P f σ w) (hdom : ∀ b, σ.next ≤ b → b < σ'.next → f b = none) (hok : okOp P ao o.op = true) (ha : TR P f tm a.tmps) (hv : opV ao tm σ = some (v, σ')) : LoudOK P f o a v σ σ' w := by
  have hcl : cls ao = 0 ∨ cls ao = 1 ∨ cls ao = 2 ∨ cls ao = 3 := by cases ao <;> simp [cls]
  rcases hcl with hc | hc | hc | hc
  · obtain ⟨rfl, rv, h1, h2⟩ := pure_sound hc hok ha hv
    exact .inr ⟨rv, w, f, .inl (h2 w), h1, StR.refl h⟩
  · obtain ⟨rfl, rv, h1, h2⟩ := read_sound hc h hok ha hv
    exact .inr ⟨rv, w, f, .inl h2, h1, StR.refl h⟩
  · obtain ⟨obj, hrw, h1, h2⟩ := make_sound (id := σ.next) (σ := σ) hc hok ha hv
    have h1 := h1 σ
    rw [show ({ σ with next := σ.next } : AS) = σ from rfl] at h1
    rw [h1] at hv
    cases hv
    obtain ⟨t, rv, w', k1, k2, k3⟩ := h2 w
    have hn : f σ.next = none := hdom _ (Nat.le_refl _) (Nat.lt_succ_self _)
    obtain ⟨k4, k5⟩ := k3 _ (sub_upd t hn) (upd_same f _ t)
    exact .inr ⟨rv, w', _, .inl k1, k5, StR.made h hn k2.at_ k2.old (Nat.le_of_lt k2.size) k2.out k2.os k4⟩
  · exact loud_sound hc hcall h hdom hok ha hv

end Go.AM
