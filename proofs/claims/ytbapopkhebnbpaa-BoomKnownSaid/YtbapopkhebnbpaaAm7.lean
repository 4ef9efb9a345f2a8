/- Each operation that only reckons, further: slices, addresses, parts, equality of structs. -/
import Derived.Test.YtbapopkhebnbpaaAm6
namespace Go.AM
open Go

variable {P : Program} {f : FM} {tm : T AV} {σ σ' : AS} {a : Act} {v : AV} {o : Oper}

theorem asNat_sound {x : AV} {n : Nat} {r : Value} (h : asNat x = some n) (hr : VR P f x r) : ∃ k, r = .int k (n : Int) := by
  cases x <;> simp [asNat] at h
  rename_i k z
  by_cases hz : 0 ≤ z
  · simp [hz] at h
    simp only [VR] at hr
    exact ⟨k, by rw [hr, ← h]; simp; omega⟩
  · simp [hz] at h

theorem bound_sound {x : AV} {n y : Nat} {r : Value} (h : asNat x = some n) (hr : VR P f x r) (hle : n ≤ y) (code : BoundsCode) (w : World) : (Instr.sliceBound r y code).run P w = .ok n w := by
  obtain ⟨k, rfl⟩ := asNat_sound h hr
  have : (0 : Int) ≤ n ∧ (n : Int) ≤ y := ⟨by omega, by omega⟩
  simp [Instr.sliceBound, asIntOf, hle]

theorem ble_key {z : AV} {n y : Nat} (he : ((asNat z).bind fun m => bif Nat.ble m y then some m else none) = some n) : asNat z = some n ∧ n ≤ y := by
  obtain ⟨q, g1, g2⟩ := bind_some he
  cases hq : Nat.ble q y with
  | false => simp [hq] at g2
  | true => simp [hq] at g2; subst g2; exact ⟨g1, Nat.le_of_ble_eq_true hq⟩

theorem bounds_sound {isSlice : Bool} {len cap rcap : Nat} {lo hi mx : Option AV} {l h m : Nat} {lo' hi' mx' : Option Value} (hb : bounds3 len cap lo hi mx = some (l, h, m))
    (h1 : OR P f lo lo') (h2 : OR P f hi hi') (h3 : OR P f mx mx') (hc : cap ≤ rcap) (w : World) :
    (Instr.sliceBounds isSlice len rcap lo' hi' mx').run P w = .ok (l, h, if mx.isNone then rcap else m) w ∧ l ≤ h ∧ (mx.isNone = true → m = cap) ∧ (mx.isNone = false → h ≤ m) ∧ m ≤ cap ∧ (hi.isSome = true → h ≤ m) ∧ (hi.isNone = true → h = len) := by
  unfold bounds3 at hb
  obtain ⟨m0, e1, hb⟩ := bind_some hb
  obtain ⟨h0, e2, hb⟩ := bind_some hb
  obtain ⟨l0, e3, hb⟩ := bind_some hb
  cases hb
  have key := @ble_key
  unfold Instr.sliceBounds
  cases mx with
  | none =>
    cases mx' with
    | some _ => exact h3.elim
    | none =>
      simp only at e1; cases e1
      cases lo with
      | none =>
        cases lo' with
        | some _ => exact h1.elim
        | none =>
          simp only at e3; cases e3
          cases hi with
          | none =>
            cases hi' with
            | some _ => exact h2.elim
            | none => simp only at e2; cases e2; simp
          | some z =>
            cases hi' with
            | none => exact h2.elim
            | some z' =>
              simp only at e2
              obtain ⟨g1, g2⟩ := key e2
              simp [bound_sound g1 h2 (Nat.le_trans g2 hc), g2]
      | some y =>
        cases lo' with
        | none => exact h1.elim
        | some y' =>
          simp only at e3
          obtain ⟨k1, k2⟩ := key e3
          cases hi with
          | none =>
            cases hi' with
            | some _ => exact h2.elim
            | none => simp only at e2; cases e2; simp [bound_sound k1 h1 k2, k2]
          | some z =>
            cases hi' with
            | none => exact h2.elim
            | some z' =>
              simp only at e2
              obtain ⟨g1, g2⟩ := key e2
              simp [bound_sound g1 h2 (Nat.le_trans g2 hc), bound_sound k1 h1 k2, g2, k2]
  | some x =>
    cases mx' with
    | none => exact h3.elim
    | some x' =>
      simp only at e1
      obtain ⟨j1, j2⟩ := key e1
      cases hi with
      | none => simp at e2
      | some z =>
        cases hi' with
        | none => exact h2.elim
        | some z' =>
          simp only at e2
          obtain ⟨g1, g2⟩ := key e2
          cases lo with
          | none =>
            cases lo' with
            | some _ => exact h1.elim
            | none => simp only at e3; cases e3; simp [bound_sound j1 h3 (Nat.le_trans j2 hc), bound_sound g1 h2 g2, g2, j2]
          | some y =>
            cases lo' with
            | none => exact h1.elim
            | some y' =>
              simp only at e3
              obtain ⟨k1, k2⟩ := key e3
              simp [bound_sound j1 h3 (Nat.le_trans j2 hc), bound_sound g1 h2 g2, bound_sound k1 h1 k2, g2, j2, k2]

theorem addr_add (rb p n : Nat) : (⟨rb, p, none⟩ : Addr).add n = ⟨rb, p + n, none⟩ := by
  unfold Addr.add; split <;> simp_all

theorem p_slice {et' esz : Nat} {x : AOpd} {lo hi mx : Option AOpd} (hok : ok_slice P et' esz x lo hi mx o.op = true) (ha : TR P f tm a.tmps) (hv : op_slice et' esz x lo hi mx tm σ = some (v, σ')) : PureOK P f o a v σ σ' := by
  unfold ok_slice at hok
  split at hok
  · rename_i t y l h m ho
    simp only [Bool.and_eq_true] at hok
    obtain ⟨⟨⟨⟨hx, h1⟩, h2⟩, h3⟩, hu⟩ := hok
    split at hu
    · rename_i e hu'
      simp only [Bool.and_eq_true] at hu
      obtain ⟨het, hu⟩ := hu
      have het := Nat.eq_of_beq_eq_true het
      subst het
      replace hv := bind_some hv; obtain ⟨ux, g1, hv⟩ := hv
      replace hv := bind_some hv; obtain ⟨ul, g2, hv⟩ := hv
      replace hv := bind_some hv; obtain ⟨uh, g3, hv⟩ := hv
      replace hv := bind_some hv; obtain ⟨um, g4, hv⟩ := hv
      replace hv := map_some hv; obtain ⟨r, g5, hv⟩ := hv
      cases hv
      have hc := opd_sound hx ha g1
      have kl : OR P f ul (l.map a.eval) := opdO_sound h1 ha g2
      have kh : OR P f uh (h.map a.eval) := opdO_sound h2 ha g3
      have km : OR P f um (m.map a.eval) := opdO_sound h3 ha g4
      cases ux with
      | slc b len cap et ck =>
        simp only [sliceV] at g5
        obtain ⟨⟨l0, h0, m0⟩, g6, g7⟩ := bind_some g5
        refine ⟨rfl, ?_⟩
        have hm : um.isNone = (m.map a.eval).isNone := by
          cases um <;> cases hq : m.map a.eval <;> rw [hq] at km <;> first | rfl | exact km.elim
        rcases b with _ | ⟨b, off⟩
        · -- a nil slice
          simp only [VR] at hc
          obtain ⟨rfl, rfl, hc⟩ := hc
          obtain ⟨hrun, k1, k2, k3, k4, k5, k6⟩ := bounds_sound (rcap := 0) (isSlice := true) g6 kl kh km (Nat.le_refl _) default
          have e0 : h0 = 0 := by
            cases uh with
            | none => exact k6 rfl
            | some _ => have := k5 rfl; omega
          have e1 : l0 = 0 := by omega
          have e2 : m0 = 0 := by omega
          subst e0; subst e1; subst e2
          have hvv : VR P f v (.slice none 0 0) := by
            split at g7
            · simp at g7; subst g7; simp [VR]
            · simp at g7; subst g7; simp [VR]
            · cases hq : Nat.beq et e <;> simp [hq] at g7
              subst g7; simp [VR]
            · simp at g7; subst g7; simp [VR]
          refine ⟨_, hvv, fun w => ?_⟩
          have hrun := (bounds_sound (P := P) (f := f) (rcap := 0) (isSlice := true) g6 kl kh km (Nat.le_refl _) w).1
          simp only [execOp, ho, Instr.sliceAt, Instr.slice, Sem.run_bind, run_underlying' hu', Result.andThen_ok, hc, hrun, size_of_ok hu, Sem.run_pure]
          simp
        · simp only [VR] at hc
          obtain ⟨rb, boff, rs, ad, rcap, hf, hc, hlc, hcr, hsl⟩ := hc
          have hb := fun w => bounds_sound (P := P) (f := f) (rcap := rcap) (isSlice := true) g6 kl kh km hcr w
          obtain ⟨_, k1, k2, k3, k4, k5, k6⟩ := hb default
          have hh : h0 ≤ cap := by
            cases uh with
            | none => rw [k6 rfl]; exact hlc
            | some _ => exact Nat.le_trans (k5 rfl) k4
          have hrun : ∀ w, (execOp a.eval o).run P w = .ok (.value (.slice (if (if um.isNone then rcap else m0) = l0 then some ad else some (ad.add (l0 * esz))) (h0 - l0) ((if um.isNone then rcap else m0) - l0))) w := fun w => by
            simp only [execOp, ho, Instr.sliceAt, Instr.slice, Sem.run_bind, run_underlying' hu', Result.andThen_ok, hc, (hb w).1, size_of_ok hu, Sem.run_pure]
            simp
          have hsz : ∃ i, P.info? e = some i ∧ i.size = esz := by
            unfold okSize at hu
            split at hu
            · rename_i i hi; exact ⟨i, hi, Nat.eq_of_beq_eq_true hu⟩
            · cases hu
          -- the new slice
          have fin : ∀ (M : Nat) (ck' : CK) (m1 : Nat), M ≤ rcap → h0 ≤ m1 → m1 ≤ M → (match ck' with | .exact => M = m1 | .tail => ck = .tail ∧ M = rcap ∧ et = e | .opaq => False) →
              VR P f (.slc (some (b, off + l0 * esz)) (h0 - l0) (m1 - l0) et ck') (.slice (if M = l0 then some ad else some (ad.add (l0 * esz))) (h0 - l0) (M - l0)) := by
            intro M ck' m1 hM hm1 hm2 hk
            simp only [VR]
            refine ⟨rb, boff, rs, if M = l0 then ad else ad.add (l0 * esz), M - l0, hf, by split <;> rfl, by omega, by omega, ?_, ?_⟩
            · by_cases e : M = l0
              · exact .inl (by omega)
              · rcases hsl.1 with hz | hz
                · exact .inl (by omega)
                · exact .inr (by rw [if_neg e, hz, addr_add, Nat.add_assoc])
            · cases ck' with
              | exact => show _ = _; simp only at hk; omega
              | tail =>
                obtain ⟨rfl, rfl, het2⟩ := hk
                obtain ⟨hsl1, sz, by_, he1, he2, he3⟩ := hsl
                refine ⟨sz, by_, he1, ?_, trivial⟩
                rcases he2 with he2 | he2
                · exact .inl (by omega)
                · by_cases e : M = l0
                  · exact .inl (by omega)
                  · refine .inr ?_
                    obtain ⟨i, hi1, hi2⟩ := hsz
                    simp only [einfo, het2, hi1, Option.map_some, Option.some.injEq, Prod.mk.injEq] at he1
                    have : esz = sz := by omega
                    subst this
                    rw [← he2, Nat.sub_mul]
                    have : l0 * esz ≤ M * esz := Nat.mul_le_mul_right _ (by omega)
                    omega
              | opaq => exact hk.elim
          have hM : h0 ≤ (if um.isNone then rcap else m0) ∧ (if um.isNone then rcap else m0) ≤ rcap ∧ m0 ≤ (if um.isNone then rcap else m0) ∧ h0 ≤ m0 := by
            cases um with
            | none => have := k2 rfl; simp; omega
            | some _ => have := k3 rfl; simp; omega
          split at g7
          · cases g7
            exact ⟨_, fin _ .exact m0 hM.2.1 hM.2.2.2 hM.2.2.1 (by simp), hrun⟩
          · cases g7
            have e2 := k2 rfl
            have e3 := hsl.2
            simp only at e3
            exact ⟨_, fin _ .exact m0 hM.2.1 hM.2.2.2 hM.2.2.1 (by simp; omega), hrun⟩
          · cases hq : Nat.beq et e with
            | false => simp [hq] at g7
            | true =>
              simp [hq] at g7; subst g7
              exact ⟨_, fin _ .tail m0 hM.2.1 hM.2.2.2 hM.2.2.1 ⟨rfl, by simp, Nat.eq_of_beq_eq_true hq⟩, hrun⟩
          · cases hq : Nat.beq l0 0 with
            | false => simp [hq] at g7
            | true =>
              have hl := Nat.eq_of_beq_eq_true hq
              subst hl
              simp [hq] at g7; subst g7
              refine ⟨_, ?_, hrun⟩
              simp only [VR]
              refine ⟨rb, boff, rs, if rcap = 0 then ad else ad.add (0 * esz), rcap, hf, ?_, hh, hcr, ?_⟩
              · simp; split <;> rfl
              · refine ⟨?_, trivial⟩
                rcases hsl.1 with hz | hz
                · exact .inl hz
                · exact .inr (by split; exact hz; rw [hz, addr_add]; simp)
      | _ => simp [sliceV] at g5
    · cases hu
  · cases hok

end Go.AM
