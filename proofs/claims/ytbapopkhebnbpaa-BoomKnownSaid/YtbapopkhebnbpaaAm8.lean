/- Each operation that only reckons, further: arrays, text, parts, building, least and greatest. -/
import Derived.Test.YtbapopkhebnbpaaAm7
namespace Go.AM
open Go

variable {P : Program} {f : FM} {tm : T AV} {σ σ' : AS} {a : Act} {v : AV} {o : Oper}

theorem size_info {e esz : Nat} (hu : okSize P e esz = true) : ∃ i, P.info? e = some i ∧ i.size = esz := by
  unfold okSize at hu
  split at hu
  · rename_i i hi; exact ⟨i, hi, Nat.eq_of_beq_eq_true hu⟩
  · cases hu

theorem p_sliceArr {n et esz : Nat} {x : AOpd} {lo hi mx : Option AOpd} (hok : ok_sliceArr P n et esz x lo hi mx o.op = true) (ha : TR P f tm a.tmps) (hv : op_sliceArr n et esz x lo hi mx tm σ = some (v, σ')) : PureOK P f o a v σ σ' := by
  unfold ok_sliceArr at hok
  split at hok
  · rename_i t y l h m ho
    simp only [Bool.and_eq_true] at hok
    obtain ⟨⟨⟨⟨hx, h1⟩, h2⟩, h3⟩, hu⟩ := hok
    split at hu
    · rename_i k e hu'
      simp only [Bool.and_eq_true] at hu
      obtain ⟨⟨hk, het⟩, hu⟩ := hu
      have hk := Nat.eq_of_beq_eq_true hk
      have het := Nat.eq_of_beq_eq_true het
      subst hk; subst het
      replace hv := bind_some hv; obtain ⟨ux, g1, hv⟩ := hv
      replace hv := bind_some hv; obtain ⟨ul, g2, hv⟩ := hv
      replace hv := bind_some hv; obtain ⟨uh, g3, hv⟩ := hv
      replace hv := bind_some hv; obtain ⟨um, g4, hv⟩ := hv
      have hc := opd_sound hx ha g1
      have kl := opdO_sound h1 ha g2
      have kh := opdO_sound h2 ha g3
      have km := opdO_sound h3 ha g4
      split at hv
      · rename_i b off
        obtain ⟨⟨l0, h0, m0⟩, g6, g7⟩ := map_some hv
        cases g7
        simp only [VR] at hc
        obtain ⟨rb, boff, rs, hf, hc⟩ := hc
        have hb := fun w => bounds_sound (P := P) (f := f) (rcap := k) (isSlice := false) g6 kl kh km (Nat.le_refl _) w
        obtain ⟨_, k1, k2, k3, k4, k5, k6⟩ := hb default
        have hm : (if um.isNone then k else m0) = m0 := by cases um with | none => simp; exact (k2 rfl).symm | some _ => simp
        have hh : h0 ≤ m0 := by
          cases um with
          | none => rw [k2 rfl]; cases uh with | none => rw [k6 rfl]; exact Nat.le_refl _ | some _ => rw [← k2 rfl]; exact k5 rfl
          | some _ => exact k3 rfl
        simp only [hm] at hb
        have hrun : ∀ w, (execOp a.eval o).run P w = .ok (.value (.slice (some (if m0 = l0 then ⟨rb, boff + off, none⟩ else (⟨rb, boff + off, none⟩ : Addr).add (l0 * esz))) (h0 - l0) (m0 - l0))) w := fun w => by
          simp only [execOp, ho, Instr.sliceAt, Instr.sureAddr, Sem.run_bind, run_underlying' hu', Result.andThen_ok, hc, (hb w).1, size_of_ok hu, Sem.run_pure]
        refine ⟨rfl, _, ?_, hrun⟩
        simp only [VR]
        refine ⟨rb, boff, rs, _, m0 - l0, hf, rfl, by omega, Nat.le_refl _, ?_, rfl⟩
        by_cases e : m0 = l0
        · exact .inl (by omega)
        · exact .inr (by rw [if_neg e, addr_add, Nat.add_assoc])
      · cases hv
    · cases hu
  · cases hok

theorem p_sliceStr {x : AOpd} {lo hi : Option AOpd} (hok : ok_sliceStr P x lo hi o.op = true) (ha : TR P f tm a.tmps) (hv : op_sliceStr x lo hi tm σ = some (v, σ')) : PureOK P f o a v σ σ' := by
  unfold ok_sliceStr at hok
  split at hok
  · rename_i t y l h ho
    simp only [Bool.and_eq_true] at hok
    obtain ⟨⟨⟨hx, h1⟩, h2⟩, hu⟩ := hok
    split at hu
    · rename_i hu'
      replace hv := bind_some hv; obtain ⟨ux, g1, hv⟩ := hv
      replace hv := bind_some hv; obtain ⟨ul, g2, hv⟩ := hv
      replace hv := bind_some hv; obtain ⟨uh, g3, hv⟩ := hv
      have hc := opd_sound hx ha g1
      have kl := opdO_sound h1 ha g2
      have kh := opdO_sound h2 ha g3
      split at hv
      · rename_i s
        obtain ⟨⟨l0, h0, m0⟩, g6, g7⟩ := map_some hv
        cases g7
        simp only [VR] at hc
        obtain ⟨b, hc, hbs⟩ := hc
        have hs : b.size = s.length := by rw [← hbs, List.length_map]; rfl
        rw [← hs] at g6
        have hb := fun w => bounds_sound (P := P) (f := f) (rcap := b.size) (isSlice := false) (mx' := none) g6 kl kh trivial (Nat.le_refl _) w
        refine ⟨rfl, .string (b.extract l0 h0), ?_, fun w => ?_⟩
        · simp only [VR]
          refine ⟨_, rfl, ?_⟩
          rw [← hbs]
          rw [ByteArray.data_extract, Array.toList_extract]
          simp [List.extract_eq_take_drop, List.drop_take, List.map_take, List.map_drop]
        · simp only [execOp, ho, Instr.sliceAt, Instr.slice, Sem.run_bind, run_underlying' hu', Result.andThen_ok, hc, Option.map_none, Option.isSome_none, Bool.false_eq_true, if_false, (hb w).1, Sem.run_pure]
      · cases hv
    · cases hu
  · cases hok

theorem p_fieldAddr {off : Nat} {x : AOpd} (hok : ok_fieldAddr P off x o.op = true) (ha : TR P f tm a.tmps) (hv : op_fieldAddr off x tm σ = some (v, σ')) : PureOK P f o a v σ σ' := by
  unfold ok_fieldAddr at hok
  split at hok
  · rename_i t y i ho
    simp only [Bool.and_eq_true] at hok
    obtain ⟨hx, hu⟩ := hok
    split at hu
    · rename_i fs hu'
      split at hu
      · rename_i fd hfd
        simp only [Bool.and_eq_true] at hu
        obtain ⟨hoff, hsz⟩ := hu
        have hoff := Nat.eq_of_beq_eq_true hoff
        split at hsz
        · rename_i j hj
          have hpos : 0 < j.size := by simpa [Nat.blt_eq] using hsz
          replace hv := bind_some hv; obtain ⟨ux, g1, hv⟩ := hv
          have hc := opd_sound hx ha g1
          split at hv
          · rename_i b q
            cases hv
            simp only [VR] at hc
            obtain ⟨rb, boff, rs, hf, hc⟩ := hc
            refine ⟨rfl, .pointer (some ⟨rb, boff + q + fd.offset, none⟩), ?_, fun w => ?_⟩
            rotate_left
            · simp only [execOp, ho, Instr.fieldAt, Sem.run_bind, run_underlying' hu', Result.andThen_ok, hfd, hc, Instr.sureAddr, Sem.run_pure, fieldPlace, run_sizeOf' hj, Sem.run_ite]
              rw [if_neg (by omega)]
              simp only [Sem.run_pure, Result.andThen_ok, addr_add]
            · simp only [VR]
              exact ⟨rb, boff, rs, hf, by rw [hoff, Nat.add_assoc]⟩
          · cases hv
        · cases hsz
      · cases hu
    · cases hu
  · cases hok

theorem VRs.sub {l : List AV} {r : List Value} (h : VRs P f l r) (i n : Nat) : VRs P f ((l.drop i).take n) ((r.drop i).take n) := by
  refine VRs.of_get (by simp [h.length]) (fun j x hx => ?_)
  rw [List.getElem?_take] at hx ⊢
  split at hx
  · rename_i hj
    rw [List.getElem?_drop] at hx
    obtain ⟨u, h1, h2⟩ := h.get hx
    exact ⟨u, by rw [if_pos hj, List.getElem?_drop]; exact h1, h2⟩
  · cases hx

theorem part_sound {t : Nat} {s : Sz} {c : List AV} {cs : Array Value} {off : Nat} {r : AV} (hs : okSz P t s = true) (hc : VRs P f c cs.toList)
    (h : partV s c off = some r) : ∃ rv, VR P f r rv ∧ ∀ w, (part t cs off).run P w = .ok rv w := by
  unfold partV at h
  have agg : ∀ {d : TypeDesc} {i : TypeInfo}, P.underlying t = some d → P.info? t = some i → (∀ w, (isAgg t).run P w = .ok true w) → s = some i.size → ∃ rv, VR P f r rv ∧ ∀ w, (part t cs off).run P w = .ok rv w := by
    intro d i hu hi hag e
    subst e
    simp only at h
    obtain ⟨l, h1, h2⟩ := map_some h
    subst h2
    unfold rd at h1
    cases hb : Nat.ble (off + i.size) c.length with
    | false => simp [hb] at h1
    | true =>
      simp [hb] at h1; subst h1
      refine ⟨.agg (cs.extract off (off + i.size)), ?_, fun w => ?_⟩
      · simp only [VR]
        refine ⟨_, rfl, ?_⟩
        have := hc.sub off i.size
        simpa [List.extract_eq_take_drop] using this
      · simp only [part, Sem.run_bind, hag w, Result.andThen_ok, run_sizeOf' hi, Sem.run_ite, if_true, Sem.run_pure]
  unfold okSz at hs
  split at hs
  · rename_i fs i hu hi
    exact agg hu hi (fun w => by simp [isAgg, run_underlying' hu]) (by simpa using hs)
  · rename_i n e i hu hi
    exact agg hu hi (fun w => by simp [isAgg, run_underlying' hu]) (by simpa using hs)
  · rename_i d i h1 h2 hu hi
    have e : s = none := by simpa using hs
    subst e
    simp only at h
    obtain ⟨rv, h3, h4⟩ := hc.get h
    refine ⟨rv, h4, fun w => ?_⟩
    have hag : (isAgg t).run P w = .ok false w := by
      simp only [isAgg, Sem.run_bind, run_underlying' hu, Result.andThen_ok]
      cases d <;> first | rfl | (exfalso; first | exact h1 _ hu | exact h2 _ _ hu)
    have h3' : cs[off]? = some rv := by simpa using h3
    simp [part, hag, h3']
  · cases hs

theorem p_field {off : Nat} {s : Sz} {x : AOpd} (hok : ok_field P off s x o.op = true) (ha : TR P f tm a.tmps) (hv : op_field off s x tm σ = some (v, σ')) : PureOK P f o a v σ σ' := by
  unfold ok_field at hok
  split at hok
  · rename_i t y i ho
    simp only [Bool.and_eq_true] at hok
    obtain ⟨hx, hu⟩ := hok
    split at hu
    · rename_i fs hu'
      split at hu
      · rename_i fd hfd
        simp only [Bool.and_eq_true] at hu
        obtain ⟨hoff, hsz⟩ := hu
        have hoff := Nat.eq_of_beq_eq_true hoff
        replace hv := bind_some hv; obtain ⟨ux, g1, hv⟩ := hv
        have hc := opd_sound hx ha g1
        split at hv
        · obtain ⟨r, g2, g3⟩ := map_some hv
          cases g3
          simp only [VR] at hc
          obtain ⟨cs, hc, hcs⟩ := hc
          obtain ⟨rv, h1, h2⟩ := part_sound hsz hcs g2
          refine ⟨rfl, rv, h1, fun w => ?_⟩
          simp only [execOp, ho, Instr.field, Sem.run_bind, run_underlying' hu', Result.andThen_ok, hfd, hc, asAgg, Sem.run_pure, hoff, h2]
        · cases hv
      · cases hu
    · cases hu
  · cases hok

theorem p_idxAddrS {esz : Nat} {x i : AOpd} (hok : ok_idxAddrS P esz x i o.op = true) (ha : TR P f tm a.tmps) (hv : op_idxAddrS esz x i tm σ = some (v, σ')) : PureOK P f o a v σ σ' := by
  unfold ok_idxAddrS at hok
  split at hok
  · rename_i t y j ho
    simp only [Bool.and_eq_true] at hok
    obtain ⟨⟨hx, hi⟩, hu⟩ := hok
    split at hu
    · rename_i e hu'
      replace hv := bind_some hv; obtain ⟨ux, g1, hv⟩ := hv
      replace hv := bind_some hv; obtain ⟨ui, g2, hv⟩ := hv
      replace hv := bind_some hv; obtain ⟨k, g3, hv⟩ := hv
      have hc := opd_sound hx ha g1
      obtain ⟨kd, hk⟩ := asNat_sound g3 (opd_sound hi ha g2)
      split at hv
      · rename_i b off len cap et ck
        cases hb : Nat.blt k len with
        | false => simp [hb] at hv
        | true =>
          simp [hb] at hv
          obtain ⟨rfl, rfl⟩ := hv
          have hlt : k < len := by simpa [Nat.blt_eq] using hb
          simp only [VR] at hc
          obtain ⟨rb, boff, rs, ad, rcap, hf, hc, hlc, hcr, hsl, _⟩ := hc
          have had : ad = ⟨rb, boff + off, none⟩ := by
            rcases hsl with h | h
            · omega
            · exact h
          subst had
          refine ⟨rfl, .pointer (some ⟨rb, boff + off + k * esz, none⟩), ?_, fun w => ?_⟩
          · simp only [VR]; exact ⟨rb, boff, rs, hf, by rw [Nat.add_assoc]⟩
          · simp only [execOp, ho, Instr.indexAt, hk, asIntOf, Sem.run_bind, Sem.run_pure, Result.andThen_ok, run_underlying' hu', hc]
            rw [if_pos (by omega)]
            simp [size_of_ok hu, addr_add]
      · cases hv
    · cases hu
  · cases hok

theorem p_idxAddrA {n esz : Nat} {x i : AOpd} (hok : ok_idxAddrA P n esz x i o.op = true) (ha : TR P f tm a.tmps) (hv : op_idxAddrA n esz x i tm σ = some (v, σ')) : PureOK P f o a v σ σ' := by
  unfold ok_idxAddrA at hok
  split at hok
  · rename_i t y j ho
    simp only [Bool.and_eq_true] at hok
    obtain ⟨⟨hx, hi⟩, hu⟩ := hok
    split at hu
    · rename_i m e hu'
      simp only [Bool.and_eq_true] at hu
      obtain ⟨hm, hu⟩ := hu
      have hm := Nat.eq_of_beq_eq_true hm
      subst hm
      replace hv := bind_some hv; obtain ⟨ux, g1, hv⟩ := hv
      replace hv := bind_some hv; obtain ⟨ui, g2, hv⟩ := hv
      replace hv := bind_some hv; obtain ⟨k, g3, hv⟩ := hv
      have hc := opd_sound hx ha g1
      obtain ⟨kd, hk⟩ := asNat_sound g3 (opd_sound hi ha g2)
      split at hv
      · rename_i b off
        cases hb : Nat.blt k m with
        | false => simp [hb] at hv
        | true =>
          simp [hb] at hv
          obtain ⟨rfl, rfl⟩ := hv
          have hlt : k < m := by simpa [Nat.blt_eq] using hb
          simp only [VR] at hc
          obtain ⟨rb, boff, rs, hf, hc⟩ := hc
          refine ⟨rfl, .pointer (some ⟨rb, boff + off + k * esz, none⟩), ?_, fun w => ?_⟩
          · simp only [VR]; exact ⟨rb, boff, rs, hf, by rw [Nat.add_assoc]⟩
          · simp only [execOp, ho, Instr.indexAt, hk, asIntOf, Sem.run_bind, Sem.run_pure, Result.andThen_ok, run_underlying' hu', hc, Instr.sureAddr]
            rw [if_pos (by omega)]
            simp [size_of_ok hu, addr_add]
      · cases hv
    · cases hu
  · cases hok

theorem p_idxA {n esz : Nat} {s : Sz} {x i : AOpd} (hok : ok_idxA P n esz s x i o.op = true) (ha : TR P f tm a.tmps) (hv : op_idxA n esz s x i tm σ = some (v, σ')) : PureOK P f o a v σ σ' := by
  unfold ok_idxA at hok
  split at hok
  · rename_i t y j ho
    simp only [Bool.and_eq_true] at hok
    obtain ⟨⟨hx, hi⟩, hu⟩ := hok
    split at hu
    · rename_i m e hu'
      simp only [Bool.and_eq_true] at hu
      obtain ⟨⟨hm, hu⟩, hsz⟩ := hu
      have hm := Nat.eq_of_beq_eq_true hm
      subst hm
      replace hv := bind_some hv; obtain ⟨ux, g1, hv⟩ := hv
      replace hv := bind_some hv; obtain ⟨ui, g2, hv⟩ := hv
      replace hv := bind_some hv; obtain ⟨k, g3, hv⟩ := hv
      have hc := opd_sound hx ha g1
      obtain ⟨kd, hk⟩ := asNat_sound g3 (opd_sound hi ha g2)
      split at hv
      · cases hb : Nat.blt k m with
        | false => simp [hb] at hv
        | true =>
          simp only [hb, cond_true] at hv
          obtain ⟨r, g4, g5⟩ := map_some hv
          cases g5
          have hlt : k < m := by simpa [Nat.blt_eq] using hb
          simp only [VR] at hc
          obtain ⟨cs, hc, hcs⟩ := hc
          obtain ⟨rv, h1, h2⟩ := part_sound hsz hcs g4
          refine ⟨rfl, rv, h1, fun w => ?_⟩
          simp only [execOp, ho, Instr.index, hk, asIntOf, Sem.run_bind, Sem.run_pure, Result.andThen_ok, run_underlying' hu', hc, Sem.run_ite]
          rw [if_pos (by omega)]
          simp [size_of_ok hu, h2]
      · cases hv
    · cases hu
  · cases hok

theorem p_idxStr {x i : AOpd} (hok : ok_idxStr P x i o.op = true) (ha : TR P f tm a.tmps) (hv : op_idxStr x i tm σ = some (v, σ')) : PureOK P f o a v σ σ' := by
  unfold ok_idxStr at hok
  split at hok
  · rename_i t y j ho
    simp only [Bool.and_eq_true] at hok
    obtain ⟨⟨hx, hi⟩, hu⟩ := hok
    split at hu
    · rename_i hu'
      replace hv := bind_some hv; obtain ⟨ux, g1, hv⟩ := hv
      replace hv := bind_some hv; obtain ⟨ui, g2, hv⟩ := hv
      replace hv := bind_some hv; obtain ⟨k, g3, hv⟩ := hv
      have hc := opd_sound hx ha g1
      obtain ⟨kd, hk⟩ := asNat_sound g3 (opd_sound hi ha g2)
      split at hv
      · obtain ⟨r, g4, g5⟩ := map_some hv
        cases g5
        simp only [VR] at hc
        obtain ⟨b, hc, hbs⟩ := hc
        rw [← hbs, List.getElem?_map] at g4
        obtain ⟨u, g5, g6⟩ := map_some g4
        subst g6
        refine ⟨rfl, _, rfl, fun w => ?_⟩
        have hlt : k < b.size := by
          have := (List.getElem?_eq_some_iff.1 g5).1
          simpa using this
        have hget : b[k]? = some u := by
          obtain ⟨h1, h2⟩ := List.getElem?_eq_some_iff.1 g5
          rw [getElem?_pos b k hlt]
          exact congrArg some h2
        simp only [execOp, ho, Instr.index, hk, asIntOf, Sem.run_bind, Sem.run_pure, Result.andThen_ok, run_underlying' hu', hc]
        simp [hget]
      · cases hv
    · cases hu
  · cases hok

end Go.AM
