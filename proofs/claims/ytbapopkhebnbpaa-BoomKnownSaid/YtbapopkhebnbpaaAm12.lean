/- What turns memory. -/
import Derived.Test.YtbapopkhebnbpaaAm11
namespace Go.AM
open Go

variable {P : Program} {f : FM} {tm : T AV} {σ σ' : AS} {w w' : World} {a : Act} {v : AV} {o : Oper}

theorem setCell_row (w : World) (b q : Nat) (v : Value) {rc : Array Value} {et : Nat} {fr : Nat × Nat} (h : w.heap[b]? = some (.cells rc et fr)) : (w.setCell ⟨b, q, none⟩ v).heap[b]? = some (.cells (rc.setIfInBounds q v) et fr) := by
  unfold World.setCell
  show (w.heap.modify b _)[b]? = _
  rw [Array.getElem?_modify, if_pos rfl, h]
  rfl
theorem setCell_other (w : World) (b q : Nat) (v : Value) {i : Nat} (h : i ≠ b) : (w.setCell ⟨b, q, none⟩ v).heap[i]? = w.heap[i]? := by
  unfold World.setCell
  show (w.heap.modify b _)[i]? = _
  rw [Array.getElem?_modify, if_neg (Ne.symm h)]
theorem setCells_row (b : Nat) : ∀ (vs : List Value) (q : Nat) (w : World) {rc : Array Value} {et : Nat} {fr : Nat × Nat}, w.heap[b]? = some (.cells rc et fr) → q + vs.length ≤ rc.size →
    ∃ rc', (w.setCells b q vs).heap[b]? = some (.cells rc' et fr) ∧ rc'.size = rc.size ∧ (∀ i, rc'[i]? = if q ≤ i ∧ i < q + vs.length then vs[i - q]? else rc[i]?) ∧
      (∀ i, i ≠ b → (w.setCells b q vs).heap[i]? = w.heap[i]?) ∧ (w.setCells b q vs).heap.size = w.heap.size ∧ (w.setCells b q vs).output = w.output ∧ (w.setCells b q vs).os = w.os
  | [], q, w, rc, et, fr, h, _ => ⟨rc, h, rfl, fun i => by rw [if_neg (by intro h; simp at h; omega)], fun _ _ => rfl, rfl, rfl, rfl⟩
  | v :: vs, q, w, rc, et, fr, h, hl => by
    simp at hl
    obtain ⟨rc', h1, h2, h3, h4, h5, h6, h7⟩ := setCells_row b vs (q + 1) (w.setCell ⟨b, q, none⟩ v) (setCell_row w b q v h) (by simp; omega)
    refine ⟨rc', h1, by rw [h2]; simp, fun i => ?_, fun i hi => by rw [World.setCells, h4 i hi, setCell_other w b q v hi], by rw [World.setCells, h5]; simp, h6.trans rfl, h7.trans rfl⟩
    rw [h3]
    simp only [List.length_cons]
    by_cases e : i = q
    · subst e
      rw [if_neg (by omega), if_pos (by omega)]
      have : i < rc.size := by omega
      simp [this]
    · by_cases hc : q + 1 ≤ i ∧ i < q + 1 + vs.length
      · rw [if_pos hc, if_pos (by omega), show i - q = (i - (q + 1)) + 1 by omega]
        simp
      · rw [if_neg hc, if_neg (by omega), Array.getElem?_setIfInBounds_ne (by omega)]

theorem write_inv {b q : Nat} {vs : List AV} (h : σ.write b q vs = some σ') : ∃ c, σ.heap.get b = some (.cells c false) ∧ σ.floor ≤ b ∧ q + vs.length ≤ c.length ∧ vs.all AV.scalar = true ∧ σ' = { σ with heap := σ.heap.put b (some (.cells (wr c q vs) false)) } := by
  unfold AS.write at h
  split at h
  · rename_i c hg
    cases hb : (Nat.ble σ.floor b && Nat.ble (q + vs.length) c.length && vs.all AV.scalar) with
    | false => simp [hb] at h
    | true =>
      simp only [hb, cond_true] at h
      cases h
      simp only [Bool.and_eq_true] at hb
      exact ⟨c, hg, Nat.le_of_ble_eq_true hb.1.1, Nat.le_of_ble_eq_true hb.1.2, hb.2, rfl⟩
  · cases h

/-- Cells are stored. -/
theorem run_write (h : Rel P f σ w) {b q : Nat} {vs : List AV} (hw : σ.write b q vs = some σ') {rb off rs : Nat} (hf : f b = some (rb, off, rs)) {rvs : List Value} (hr : VRs P f vs rvs) :
    ∃ w', (storeCells ⟨rb, off + q, none⟩ rvs).run P w = .ok () w' ∧ StR P f σ w f σ' w' := by
  obtain ⟨c, g1, g2, g3, g4, rfl⟩ := write_inv hw
  obtain ⟨rb', off', rs', rc, et, fr, k1, k2, k3, k4, k5, k6⟩ := h.obj b _ g1
  rw [hf] at k1; cases k1
  have hlen := hr.length
  obtain ⟨rc', m1, m2, m3, m4, m5, m6, m7⟩ := setCells_row rb rvs (off + q) w k2 (by omega)
  refine ⟨w.setCells rb (off + q) rvs, ?_, ?_⟩
  · have := run_storeCells_cells (P := P) rb (off + q) rvs 0 w (fun j hj => ?_) (fun j hj => ?_) (hr.oneCell g4)
    · simpa using this
    · rw [cell_row k2]; simp; omega
    · rw [frozen_row k2]; rcases k6 rfl with e | e <;> simp <;> omega
  · refine StR.turned h g1 rfl g2 hf m4 m5 m6 m7 ⟨rb, off, rs, rc', et, fr, hf, m1, by omega, by rw [wr_length _ _ _ g3]; exact k4, fun i x hx => ?_, k6⟩
    rw [wr_get _ _ _ g3] at hx
    rw [m3]
    split at hx
    · rename_i hi
      obtain ⟨u, e1, e2⟩ := hr.get hx
      refine ⟨by rw [List.all_eq_true] at g4; exact g4 _ (List.mem_of_getElem? hx), u, ?_, e2⟩
      rw [if_pos (by omega), show off + i - (off + q) = i - q by omega]
      exact e1
    · rename_i hi
      obtain ⟨e0, u, e1, e2⟩ := k5 i x hx
      exact ⟨e0, u, by rw [if_neg (by omega)]; exact e1, e2⟩

/-- What turns memory, or ends the run for want of room. -/
def LoudOK (P : Program) (f : FM) (o : Oper) (a : Act) (v : AV) (σ σ' : AS) (w : World) : Prop :=
  False ∨ ∃ rv w' f', ((execOp a.eval o).run P w = .ok (.value rv) w' ∨ ((execOp a.eval o).run P w = .ok .skip w' ∧ rv = undef)) ∧ VR P f' v rv ∧ StR P f σ w f' σ' w'

theorem VR_undef : VR P f (.tup []) undef := by simp [VR, VRs, undef]
theorem VR_noResult : VR P f (.tup []) (.tuple #[]) := by simp [VR, VRs]

theorem l_store {n : Nat} {x y : AOpd} (h : Rel P f σ w) (hok : ok_store P n x y o.op = true) (ha : TR P f tm a.tmps) (hv : op_store n x y tm σ = some (v, σ')) : LoudOK P f o a v σ σ' w := by
  unfold ok_store at hok
  split at hok
  · rename_i t p q ho
    simp only [Bool.and_eq_true] at hok
    obtain ⟨⟨hp, hq⟩, hs⟩ := hok
    replace hv := bind_some hv; obtain ⟨u, g1, hv⟩ := hv
    replace hv := bind_some hv; obtain ⟨z, g2, hv⟩ := hv
    have h1 := opd_sound hp ha g1
    have h2 := opd_sound hq ha g2
    split at hv
    · rename_i b r
      cases hb : Nat.beq z.cells.length n with
      | false => simp [hb] at hv
      | true =>
        simp only [hb, cond_true] at hv
        obtain ⟨σ1, g3, g4⟩ := map_some hv
        cases g4
        have hn := Nat.eq_of_beq_eq_true hb
        simp only [VR] at h1
        obtain ⟨rb, off, rs, hf, h1⟩ := h1
        obtain ⟨w', k1, k2⟩ := run_write h g3 hf h2.cells
        refine .inr ⟨undef, w', f, .inr ⟨?_, rfl⟩, VR_undef, k2⟩
        have hc : (a.eval q).cells.size = n := by have := h2.cells.length; simp at this; omega
        simp only [execOp, ho, Instr.storeAt, h1, Instr.sureAddr, Sem.run_bind, Sem.run_pure, Result.andThen_ok, storeVar, size_of_ok hs]
        rw [if_neg (by simp [hc])]
        simp only [k1, Result.andThen_ok]
    · cases hv
  · cases hok

theorem run_builtin {b : Builtin} {args : Array Operand} {argTypes : Array Nat} (ho : o.op = .call { callee := .builtin b, args := args, argTypes := argTypes }) (w : World) : ∃ cs, (execOp a.eval o).run P w = (builtin b argTypes o.type cs (args.map a.eval)).run P w := by
  refine ⟨args.map fun | .const _ => true | _ => false, ?_⟩
  unfold execOp
  rw [ho]
  dsimp only
  simp only [resolve, invoke, Sem.run_bind, Sem.run_pure, Result.andThen_ok]
  rfl

theorem l_copy {esz : Nat} {x y : AOpd} (h : Rel P f σ w) (hok : ok_copy P esz x y o.op = true) (ha : TR P f tm a.tmps) (hv : op_copy esz x y tm σ = some (v, σ')) : LoudOK P f o a v σ σ' w := by
  unfold ok_copy at hok
  split at hok
  · rename_i args argTypes ho
    split at hok
    · rename_i p q t hargs ht
      simp only [Bool.and_eq_true] at hok
      obtain ⟨⟨hp, hq⟩, hu⟩ := hok
      have hargs' : args = #[p, q] := by cases args; simpa using hargs
      subst hargs'
      split at hu
      · rename_i e hu'
        replace hv := bind_some hv; obtain ⟨ud, g1, hv⟩ := hv
        replace hv := bind_some hv; obtain ⟨us, g2, hv⟩ := hv
        have h1 := opd_sound hp ha g1
        have h2 := opd_sound hq ha g2
        obtain ⟨cs0, hrun⟩ := run_builtin (P := P) (a := a) ho w
        have ht0 : argTypes[0]? = some t := ht
        split at hv
        · rename_i da dl dc de dk
          split at hv
          · rename_i sa sl sc se sk
            dsimp only at hv
            replace hv := bind_some hv; obtain ⟨cs, g3, hv⟩ := hv
            -- the source's cells
            have hsrc : ∃ sa' sc' rl, a.eval q = .slice sa' sl sc' ∧ VRs P f cs rl ∧ cs.length = Nat.min sl dl * esz ∧ (Builtin.firstCells esz (Nat.min sl dl) (a.eval q)).run P w = .ok rl.toArray w := by
              rcases sa with _ | ⟨b, q0⟩
              · simp only [VR] at h2
                simp at g3; subst g3
                refine ⟨none, 0, [], by rw [h2.2.2, h2.1], by simp [VRs], by simp [h2.1], ?_⟩
                rw [h2.2.2]; rfl
              · simp only [VR] at h2
                obtain ⟨rb, off, rs, ad, rcap, hf, h2, hlc, hcr, hsl, _⟩ := h2
                obtain ⟨k1, _, _, rl, k2, k3⟩ := readN_sound h g3 hf
                refine ⟨some ad, rcap, rl, h2, k2, k1, ?_⟩
                rw [h2]
                simp only [Builtin.firstCells]
                have hl : rl.length = Nat.min sl dl * esz := by rw [k2.length, k1]
                by_cases hz : Nat.min sl dl * esz = 0
                · rw [hz]
                  have : rl = [] := List.length_eq_zero_iff.1 (by omega)
                  subst this
                  rfl
                · have had : ad = ⟨rb, off + q0, none⟩ := by
                    rcases hsl with e | e
                    · exfalso
                      have : sl = 0 := by omega
                      apply hz; rw [this]; simp
                    · exact e
                  rw [had, ← hl]
                  exact run_loadCells_list w _ rl k3
            obtain ⟨sa', sc', rl, e1, e2, e3, e4⟩ := hsrc
            have hlen : (Builtin.lenOf (a.eval q)).run P w = .ok sl w := by rw [e1]; rfl
            have pre : ∀ db dc', a.eval p = .slice db dl dc' → (execOp a.eval o).run P w = ((match db with | some ad => storeCells ad rl | none => pure () : Sem Unit).run P w).andThen fun _ w' => .ok (.value (goInt (Nat.min sl dl))) w' := by
              intro db dc' hd
              rw [hrun]
              simp only [builtin, Builtin.copy_, Sem.run_bind, Array.map_map, List.map_toArray, List.map_cons, List.map_nil, ht0, List.getElem?_toArray, List.getElem?_cons_zero, List.getElem?_cons_succ, run_underlying' hu', Result.andThen_ok, hd, hlen, size_of_ok hu, e4]
              cases db with
              | none => simp
              | some ad =>
                simp only [Sem.run_bind]
                cases (storeCells ad rl).run P w <;> rfl
            cases hn0 : Nat.beq (Nat.min sl dl) 0 with
            | true =>
              simp only [hn0, cond_true] at hv
              cases hv
              have hn := Nat.eq_of_beq_eq_true hn0
              have hrl : rl = [] := List.length_eq_zero_iff.1 (by rw [e2.length, e3, hn]; simp)
              subst hrl
              have hd : ∃ db dc', a.eval p = .slice db dl dc' := by
                rcases da with _ | ⟨b, q0⟩
                · simp only [VR] at h1; exact ⟨none, 0, by rw [h1.2.2, h1.1]⟩
                · simp only [VR] at h1; obtain ⟨rb, off, rs, ad, rcap, hf, h1, _⟩ := h1; exact ⟨_, _, h1⟩
              obtain ⟨db, dc', hd⟩ := hd
              refine .inr ⟨goInt 0, w, f, .inl ?_, by simp [VR, goInt], StR.refl h⟩
              rw [pre db dc' hd, hn]
              cases db <;> rfl
            | false =>
              simp only [hn0, cond_false] at hv
              split at hv
              · rename_i b q0
                obtain ⟨σ1, g5, g6⟩ := map_some hv
                cases g6
                simp only [VR] at h1
                obtain ⟨rb, off, rs, ad, rcap, hf, h1, hlc, hcr, hsl, _⟩ := h1
                have had : ad = ⟨rb, off + q0, none⟩ := by
                  rcases hsl with e | e
                  · exfalso
                    have : dl = 0 := by omega
                    have hh := Nat.ne_of_beq_eq_false hn0
                    apply hh; rw [this]; simp
                  · exact e
                obtain ⟨w', k1, k2⟩ := run_write h g5 hf e2
                refine .inr ⟨goInt (Nat.min sl dl), w', f, .inl ?_, by simp [VR, goInt], k2⟩
                rw [pre _ _ h1, had]
                simp only [k1, Result.andThen_ok]
              · cases hv
          · cases hv
        · cases hv
      · cases hu
    · cases hok
  · cases hok

theorem l_clear {zero : List AV} {x : AOpd} (h : Rel P f σ w) (hok : ok_clear P zero x o.op = true) (ha : TR P f tm a.tmps) (hv : op_clear zero x tm σ = some (v, σ')) : LoudOK P f o a v σ σ' w := by
  unfold ok_clear at hok
  split at hok
  · rename_i args argTypes ho
    split at hok
    · rename_i p t hargs ht
      simp only [Bool.and_eq_true] at hok
      obtain ⟨⟨hp, hz0⟩, hu⟩ := hok
      have hargs' : args = #[p] := by cases args; simpa using hargs
      subst hargs'
      split at hu
      · rename_i e hu'
        obtain ⟨i, z, hi, hz1, hz2, hz3, hz4, hzr⟩ := zero_sound hu
        replace hv := bind_some hv; obtain ⟨ud, g1, hv⟩ := hv
        have h1 := opd_sound hp ha g1
        obtain ⟨cs0, hrun⟩ := run_builtin (P := P) (a := a) ho w
        have ht0 : argTypes[0]? = some t := ht
        have pre : ∀ db n c', a.eval p = .slice db n c' → (db = none ∨ n = 0) → (execOp a.eval o).run P w = .ok (.value (.tuple #[])) w := by
          intro db n c' hd hh
          rw [hrun]
          rcases hh with rfl | rfl
          · simp [builtin, Builtin.clear_, ht0, run_underlying' hu', hd]
          · cases db <;> simp [builtin, Builtin.clear_, ht0, run_underlying' hu', hd]
        split at hv
        · rename_i b q0 n c et ck
          simp only [VR] at h1
          obtain ⟨rb, off, rs, ad, rcap, hf, h1, hlc, hcr, hsl, _⟩ := h1
          cases hn0 : Nat.beq n 0 with
          | true =>
            simp only [hn0, cond_true] at hv
            cases hv
            have hn := Nat.eq_of_beq_eq_true hn0
            exact .inr ⟨_, w, f, .inl (pre _ _ _ h1 (.inr hn)), VR_noResult, StR.refl h⟩
          | false =>
            simp only [hn0, cond_false] at hv
            obtain ⟨σ1, g5, g6⟩ := map_some hv
            cases g6
            have hn := Nat.ne_of_beq_eq_false hn0
            have had : ad = ⟨rb, off + q0, none⟩ := by
              rcases hsl with e | e
              · omega
              · exact e
            have hp0 : 0 < zero.length := by simpa [Nat.blt_eq] using hz0
            have hzs := sizedZeros_sound (hz2 f) hp0 n
            obtain ⟨w', k1, k2⟩ := run_write h g5 hf hzs
            refine .inr ⟨_, w', f, .inl ?_, VR_noResult, k2⟩
            rw [hrun]
            obtain ⟨m, rfl⟩ : ∃ m, n = m + 1 := ⟨n - 1, by omega⟩
            rw [had] at h1
            have hrw : (zeroValue e).run P w = .ok z w := hzr w
            simp only [builtin, Builtin.clear_, Sem.run_bind, List.map_toArray, List.map_cons, List.map_nil, ht0, List.getElem?_toArray, List.getElem?_cons_zero, run_underlying' hu', Result.andThen_ok, h1, hrw, Sem.run_pure]
            have e0 : Builtin.zeroCells z.cells (m + 1) = (Array.range ((m + 1) * z.cells.size)).map (z.cells[· % z.cells.size]!) := rfl
            rw [e0, k1]
            rfl
        · cases hv
          simp only [VR] at h1
          exact .inr ⟨_, w, f, .inl (pre _ _ _ h1.2.2 (.inl rfl)), VR_noResult, StR.refl h⟩
        · cases hv
      · cases hu
    · cases hok
  · cases hok

end Go.AM
