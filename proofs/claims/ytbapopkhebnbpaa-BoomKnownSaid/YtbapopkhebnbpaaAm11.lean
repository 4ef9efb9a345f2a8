/- What makes memory. -/
import Derived.Test.YtbapopkhebnbpaaAm10
namespace Go.AM
open Go

variable {P : Program} {f : FM} {tm : T AV} {σ σ' : AS} {w w' : World} {a : Act} {v : AV} {o : Oper} {id : Nat}

structure Makes (w w' : World) (t : Nat × Nat × Nat) : Prop where
  at_ : t.1 = w.heap.size
  old : ∀ i, i < w.heap.size → w'.heap[i]? = w.heap[i]?
  size : w.heap.size < w'.heap.size
  out : w'.output = w.output
  os : w'.os = w.os

/-- One object is made; its number in the small machine is open. -/
def MakeOK (P : Program) (f : FM) (o : Oper) (a : Act) (ao : AOp) (tm : T AV) (id : Nat) (v : AV) : Prop :=
  ∃ obj : AObj, obj.rw = true ∧ (∀ σ : AS, opV ao tm { σ with next := id } = some (v, { σ with heap := σ.heap.put id (some obj), next := id + 1 })) ∧
    ∀ w, ∃ t rv w', (execOp a.eval o).run P w = .ok (.value rv) w' ∧ Makes w w' t ∧ ∀ f', Sub f f' → f' id = some t → ObjR P f' w' id obj ∧ VR P f' v rv

theorem alloc_new (w : World) (ob : Obj) : (w.alloc ob).heap[w.heap.size]? = some ob := by show (w.heap.push ob)[w.heap.size]? = _; simp
theorem alloc_old (w : World) (ob : Obj) {i : Nat} (h : i < w.heap.size) : (w.alloc ob).heap[i]? = w.heap[i]? := by
  show (w.heap.push ob)[i]? = _
  rw [Array.getElem?_push, if_neg (by omega)]
theorem makes_alloc (w : World) (ob : Obj) (off rs : Nat) : Makes w (w.alloc ob) (w.heap.size, off, rs) :=
  ⟨rfl, fun i hi => alloc_old w ob hi, by simp, rfl, rfl⟩

theorem obj_cells {f' : FM} {c : List AV} {rc : Array Value} {et : Nat} (hf : f' id = some (w.heap.size, 0, rc.size)) (hc : VRs P f' c rc.toList) (hs : c.all AV.scalar = true) : ObjR P f' (w.alloc (.cells rc et)) id (.cells c false) := by
  refine ⟨w.heap.size, 0, rc.size, rc, et, (0, 0), hf, alloc_new w _, rfl, by have := hc.length; simp at this; omega, fun i x hx => ?_, fun _ => .inl rfl⟩
  refine ⟨by rw [List.all_eq_true] at hs; exact hs _ (List.mem_of_getElem? hx), ?_⟩
  obtain ⟨u, h1, h2⟩ := hc.get hx
  exact ⟨u, by simpa using h1, h2⟩

theorem m_new {zero : List AV} (hok : ok_new P zero o.op = true) (hv : op_new zero tm { σ with next := id } = some (v, σ')) : MakeOK P f o a (.new zero) tm id v := by
  unfold ok_new at hok
  split at hok
  · rename_i t ho
    obtain ⟨i, z, hi, hz1, hz2, hz3, hz4, hzr⟩ := zero_sound hok
    cases hv
    refine ⟨.cells zero false, rfl, fun σ => rfl, fun w => ⟨(w.heap.size, 0, z.cells.size), .pointer (some ⟨w.heap.size, 0, none⟩), w.alloc (.cells z.cells t), ?_, makes_alloc _ _ _ _, fun f' hs hf => ⟨obj_cells hf (hz2 f') hz3, ?_⟩⟩⟩
    · simp [execOp, ho, Instr.alloc, hzr, newVar, newRow]
    · simp only [VR]; exact ⟨_, _, _, hf, rfl⟩
  · cases hok

theorem m_box {x : AOpd} (hok : ok_box x o.op = true) (ha : TR P f tm a.tmps) (hv : op_box x tm { σ with next := id } = some (v, σ')) : MakeOK P f o a (.box x) tm id v := by
  unfold ok_box at hok
  split at hok
  · rename_i t y ho
    obtain ⟨u, h1, h2⟩ := bind_some hv
    have hc := opd_sound hok ha h1
    cases hs : u.cells.all AV.scalar with
    | false => simp [hs] at h2
    | true =>
      simp [hs] at h2
      obtain ⟨rfl, rfl⟩ := h2
      refine ⟨.cells u.cells false, rfl, fun σ => by show op_box x tm _ = _; simp [op_box, h1, hs, AS.alloc], fun w => ⟨(w.heap.size, 0, (a.eval y).cells.size), .pointer (some ⟨w.heap.size, 0, none⟩), w.alloc (.cells (a.eval y).cells t), ?_, makes_alloc _ _ _ _, fun f' hsub hf => ⟨obj_cells hf (hc.mono hsub).cells hs, ?_⟩⟩⟩
      · simp [execOp, ho, Instr.box, newVar, newRow]
      · simp only [VR]; exact ⟨_, _, _, hf, rfl⟩
  · cases hok

theorem m_mkMap (hok : ok_mkMap o.op = true) (hv : op_mkMap tm { σ with next := id } = some (v, σ')) : MakeOK P f o a .mkMap tm id v := by
  unfold ok_mkMap at hok
  split at hok
  · rename_i t ho
    cases hv
    refine ⟨.map [] 0, rfl, fun σ => rfl, fun w => ⟨(w.heap.size, 0, 0), .map (some w.heap.size), w.alloc (.map #[] 0), ?_, makes_alloc _ _ _ _, fun f' hs hf => ⟨?_, ?_⟩⟩⟩
    · simp [execOp, ho, Instr.makeMap]
    · exact ⟨w.heap.size, 0, 0, #[], hf, alloc_new w _, rfl, fun i => by simp⟩
    · simp only [VR]; exact ⟨_, _, _, hf, rfl⟩
  · cases hok

theorem m_buildSlice {et n : Nat} {zero : List AV} {ps : List (Nat × Nat × AOpd)} (hok : ok_buildSlice P et n zero ps o.op = true) (ha : TR P f tm a.tmps) (hv : op_buildSlice et n zero ps tm { σ with next := id } = some (v, σ')) : MakeOK P f o a (.buildSlice et n zero ps) tm id v := by
  unfold ok_buildSlice at hok
  split at hok
  · rename_i t len qs ho
    simp only [Bool.and_eq_true] at hok
    obtain ⟨hn, hu⟩ := hok
    have hn := Nat.eq_of_beq_eq_true hn
    subst hn
    split at hu
    · rename_i e hu'
      simp only [Bool.and_eq_true] at hu
      obtain ⟨he, hu⟩ := hu
      have he := Nat.eq_of_beq_eq_true he
      subst he
      split at hu
      · rename_i i hi
        simp only [Bool.and_eq_true] at hu
        obtain ⟨⟨⟨hle, hps⟩, hpos⟩, hz⟩ := hu
        have hle := Nat.le_of_ble_eq_true hle
        split at hz
        · rename_i z hz1
          simp only [Bool.and_eq_true] at hz
          obtain ⟨us, g1, hv⟩ := bind_some hv
          obtain ⟨r, g2, g3⟩ := map_some hv
          cases g3
          obtain ⟨hl, hk⟩ := okPartsA_get hps
          have hz2 : ∀ f, VRs P f zero ((Array.range (n * i.size)).map (z.cells[· % z.cells.size]!)).toList := fun f => okVs.vr _ _ hz.1
          have hfill := fun f' (hs : Sub f f') => fill_sound (f := f') (place := fun k => some (k * i.size, i.size)) (fun k x y hx hy => by
            obtain ⟨⟨k1, k2⟩, k4⟩ := hk k x y hx hy
            exact ⟨by rw [k1, k2], k4⟩) hl (ha.mono hs) g1 g2 (hz2 f')
          obtain ⟨rs, e3, e4⟩ := hfill f (Sub.refl f)
          have hscal : r.all AV.scalar = true := by
            have : ∀ {us : List (Nat × Nat × AV)} {c r : List AV}, fillP c us = some r → c.all AV.scalar = true → r.all AV.scalar = true := by
              intro us
              induction us with
              | nil => intro c r h1 h2; simp [fillP] at h1; subst h1; exact h2
              | cons u us ih =>
                intro c r h1 h2
                obtain ⟨o1, n1, v1⟩ := u
                simp only [fillP] at h1
                cases hb : (Nat.beq v1.cells.length n1 && Nat.ble (o1 + n1) c.length && v1.cells.all AV.scalar) with
                | false => simp [hb] at h1
                | true =>
                  simp only [hb, cond_true] at h1
                  simp only [Bool.and_eq_true] at hb
                  refine ih h1 ?_
                  unfold AM.wr
                  simp only [List.all_append, Bool.and_eq_true]
                  have h3 := List.all_eq_true.1 h2
                  exact ⟨List.all_eq_true.2 fun x hx => h3 _ (List.mem_of_mem_take hx), hb.2, List.all_eq_true.2 fun x hx => h3 _ (List.mem_of_mem_drop hx)⟩
            exact this g2 hz.2
          refine ⟨.cells r false, rfl, fun σ => by show op_buildSlice _ _ _ _ tm _ = _; simp [op_buildSlice, g1, g2, AS.alloc], fun w => ⟨(w.heap.size, 0, rs.size), .slice (some ⟨w.heap.size, 0, none⟩) n n, w.alloc (.cells rs e), ?_, makes_alloc _ _ _ _, fun f' hsub hf => ⟨obj_cells hf (e4.mono hsub) hscal, ?_⟩⟩⟩
          · have e3' : Instr.fill (fun k => some (k * i.size, i.size)) ((Array.range (n * i.size)).map (z.cells[· % z.cells.size]!)) (Array.map (fun x : Nat × Operand => (x.1, a.eval x.2)) qs).toList = some rs := by simpa using e3
            have hzr : ∀ w, (zeroValue e).run P w = .ok z w := fun w => by simp [zeroValue, run_typeInfo' hi, hz1]
            simp only [execOp, ho, Instr.buildSlice, Sem.run_bind, run_underlying' hu', run_sizeOf' hi, Result.andThen_ok]
            rw [if_neg (by omega)]
            by_cases h0 : n * i.size = 0
            · rw [if_pos h0]
              have e5 : (Array.range (n * i.size)).map (fun x => (#[] : Array Value)[x % (#[] : Array Value).size]!) = (Array.range (n * i.size)).map (z.cells[· % z.cells.size]!) := by rw [h0]; simp
              simp only [Sem.run_bind, Sem.run_pure, Result.andThen_ok]
              rw [e5, e3']
              simp [newRow]
            · rw [if_neg h0]
              simp only [Sem.run_bind, Sem.run_pure, Result.andThen_ok, hzr]
              rw [e3']
              simp [newRow]
          · simp only [VR]
            exact ⟨_, _, _, _, _, hf, rfl, Nat.le_refl _, Nat.le_refl _, .inr (by simp), rfl⟩
        · cases hz
      · cases hu
    · cases hu
  · cases hok

theorem sizedZeros_get (zero : List AV) (hp : 0 < zero.length) : ∀ (c i : Nat), i < c * zero.length → (sizedZeros zero c)[i]? = zero[i % zero.length]?
  | 0, i, h => by simp at h
  | c + 1, i, h => by
    simp only [sizedZeros]
    rw [List.getElem?_append]
    by_cases h1 : i < zero.length
    · rw [if_pos h1, Nat.mod_eq_of_lt h1]
    · rw [if_neg h1, sizedZeros_get zero hp c (i - zero.length) (by rw [Nat.succ_mul] at h; omega)]
      rw [← Nat.mod_eq_sub_mod (by omega)]
theorem sizedZeros_length (zero : List AV) : ∀ c, (sizedZeros zero c).length = c * zero.length
  | 0 => by simp [sizedZeros]
  | c + 1 => by simp [sizedZeros, sizedZeros_length zero c, Nat.succ_mul]; omega
theorem sizedZeros_scalar (zero : List AV) (h : zero.all AV.scalar = true) : ∀ c, (sizedZeros zero c).all AV.scalar = true
  | 0 => rfl
  | c + 1 => by simp only [sizedZeros, List.all_append, h, sizedZeros_scalar zero h c, Bool.and_self]
theorem sizedZeros_sound {zero : List AV} {z : Array Value} (h : VRs P f zero z.toList) (hp : 0 < zero.length) (c : Nat) : VRs P f (sizedZeros zero c) ((Array.range (c * z.size)).map (z[· % z.size]!)).toList := by
  have hz : z.size = zero.length := by simpa using h.length
  refine VRs.of_get (by rw [sizedZeros_length]; simp [hz]) (fun i x hx => ?_)
  have hlt : i < c * zero.length := by
    rw [← sizedZeros_length]; exact (List.getElem?_eq_some_iff.1 hx).1
  rw [sizedZeros_get zero hp c i hlt] at hx
  obtain ⟨u, h1, h2⟩ := h.get hx
  refine ⟨u, ?_, h2⟩
  have hm : i % z.size < z.size := Nat.mod_lt _ (by omega)
  have h1' : z[i % z.size]? = some u := by rw [hz]; simpa using h1
  have h3 : z[i % z.size]! = u := by
    rw [getElem!_pos z _ hm]
    rw [getElem?_pos z _ hm] at h1'
    exact Option.some.inj h1'
  simp [hz, hlt]
  rw [← hz]; exact h3

theorem wrap_id {n : Int} (h0 : 0 ≤ n) (h : n ≤ 9223372036854775807) : IntKind.i64.wrap n = n := by
  rw [← wrapSlow_eq]
  unfold wrapSlow
  have h1 : lo .i64 ≤ n := by show (-9223372036854775808 : Int) ≤ n; omega
  have h2 : n ≤ hi .i64 := h
  simp [h1, h2]

theorem m_mkSlice {et bytes : Nat} {zero : List AV} {l c : AOpd} (hok : ok_mkSlice P et bytes zero l c o.op = true) (ha : TR P f tm a.tmps) (hv : op_mkSlice et bytes zero l c tm { σ with next := id } = some (v, σ')) : MakeOK P f o a (.mkSlice et bytes zero l c) tm id v := by
  unfold ok_mkSlice at hok
  split at hok
  · rename_i t y z ho
    simp only [Bool.and_eq_true] at hok
    obtain ⟨⟨hy, hz⟩, hu⟩ := hok
    split at hu
    · rename_i e hu'
      simp only [Bool.and_eq_true] at hu
      obtain ⟨⟨⟨⟨he, hzo⟩, hp⟩, hbp⟩, hb⟩ := hu
      have he := Nat.eq_of_beq_eq_true he
      subst he
      have hp : 0 < zero.length := by simpa [Nat.blt_eq] using hp
      have hbp : 0 < bytes := by simpa [Nat.blt_eq] using hbp
      obtain ⟨i, zv, hi, hz1, hz2, hz3, hz4, hzr⟩ := zero_sound hzo
      rw [hi] at hb
      have hb := Nat.eq_of_beq_eq_true hb
      obtain ⟨ul, g1, hv⟩ := bind_some hv
      obtain ⟨uc, g2, hv⟩ := bind_some hv
      obtain ⟨nl, g3, hv⟩ := bind_some hv
      obtain ⟨nc, g4, hv⟩ := bind_some hv
      obtain ⟨k1, hl⟩ := asNat_sound g3 (opd_sound hy ha g1)
      obtain ⟨k2, hc⟩ := asNat_sound g4 (opd_sound hz ha g2)
      cases hbb : (Nat.ble nl nc && Nat.ble (nc * bytes) 70368744177664) with
      | false => simp [hbb] at hv
      | true =>
        simp only [hbb, cond_true] at hv
        cases hv
        have hbb' := hbb
        simp only [Bool.and_eq_true] at hbb
        have hle := Nat.le_of_ble_eq_true hbb.1
        have hby := Nat.le_of_ble_eq_true hbb.2
        have hncb : nc ≤ nc * bytes := Nat.le_mul_of_pos_right _ hbp
        have hsz : zv.cells.size = i.size := by have := (hz2 f).length; simp at this; omega
        refine ⟨.cells (sizedZeros zero nc) false, rfl, fun σ => by show op_mkSlice _ _ _ _ _ tm _ = _; simp [op_mkSlice, g1, g2, g3, g4, hbb', AS.alloc], fun w => ⟨(w.heap.size, 0, ((Array.range (nc * zv.cells.size)).map (zv.cells[· % zv.cells.size]!)).size), .slice (some ⟨w.heap.size, 0, none⟩) nl nc, w.alloc (.cells ((Array.range (nc * zv.cells.size)).map (zv.cells[· % zv.cells.size]!)) e), ?_, makes_alloc _ _ _ _, fun f' hsub hf => ⟨obj_cells hf (sizedZeros_sound (hz2 f') hp nc) (sizedZeros_scalar zero hz3 nc), ?_⟩⟩⟩
        · have w1 : IntKind.i64.wrap (nl : Int) = nl := wrap_id (by omega) (by omega)
          have w2 : IntKind.i64.wrap (nc : Int) = nc := wrap_id (by omega) (by omega)
          have htl : ∀ n : Nat, n ≤ nc → ¬ ((n : Int) < 0 || (i.bytes : Int) * n > 2 ^ 48) = true := fun n hn => by
            simp only [Bool.or_eq_true, decide_eq_true_eq, not_or]
            refine ⟨by omega, ?_⟩
            rw [hb]
            have : n * bytes ≤ nc * bytes := Nat.mul_le_mul_right _ hn
            have h3 : ((bytes : Int) * n) = ((n * bytes : Nat) : Int) := by push_cast; rw [Int.mul_comm]
            rw [h3]
            have : (2 : Int) ^ 48 = 281474976710656 := by decide
            omega
          have hcond : ¬ ((decide ((nc : Int) < 0) || decide ((i.bytes : Int) * nc > 2 ^ 48)) || decide ((nl : Int) < 0) || decide ((nl : Int) > nc)) = true := by
            have := htl nc (Nat.le_refl _)
            simp only [Bool.or_eq_true, decide_eq_true_eq, not_or] at this ⊢
            exact ⟨⟨this, by omega⟩, by omega⟩
          simp only [execOp, ho, Instr.makeSlice, Sem.run_bind, run_underlying' hu', Result.andThen_ok, hl, hc, asInt, asIntOf, Sem.run_pure, run_typeInfo' hi, w1, w2, Sem.run_ite]
          rw [if_neg hcond]
          simp only [Sem.run_bind, run_askRoom, Result.andThen_ok, run_sizeOf' hi, Int.toNat_natCast, ← hsz]
          by_cases h0 : nc * zv.cells.size = 0
          · have : nc = 0 := by
              rcases Nat.mul_eq_zero.1 h0 with h | h
              · exact h
              · omega
            subst this
            have er : Array.range 0 = #[] := rfl
            simp [newRow, er]
          · simp [h0, hzr, newRow]
        · simp only [VR]
          exact ⟨_, _, _, _, _, hf, rfl, hle, Nat.le_refl _, .inr (by simp), rfl⟩
    · cases hu
  · cases hok

theorem bytes_sound {s : List Nat} {b : ByteArray} (h : b.data.toList.map UInt8.toNat = s) (f : FM) : VRs P f (s.map fun (c : Nat) => AV.int .u8 (Int.ofNat c)) ((b.data.map fun c => Value.int .u8 c.toNat).toList) := by
  subst h
  refine VRs.of_get (by simp) (fun i x hx => ?_)
  simp only [List.map_map, List.getElem?_map] at hx
  obtain ⟨c, h1, h2⟩ := map_some hx
  subst h2
  refine ⟨.int .u8 c.toNat, ?_, by simp [VR]⟩
  simp only [Array.toList_map, List.getElem?_map, h1, Option.map_some]

theorem map_int_scalar (s : List Nat) (k : IntKind) : (s.map fun (c : Nat) => AV.int k (Int.ofNat c)).all AV.scalar = true := by
  rw [List.all_eq_true]
  intro x hx
  obtain ⟨c, _, rfl⟩ := List.mem_map.1 hx
  rfl

theorem freeze_heap (w : World) (b n m : Nat) (hm : m ≠ 0) (i : Nat) (hi : i ≠ b) : (w.freeze ⟨b, n, none⟩ m).heap[i]? = w.heap[i]? := by
  unfold World.freeze
  rw [if_neg hm]
  show (w.heap.modify b _)[i]? = _
  rw [Array.getElem?_modify]
  rw [if_neg (Ne.symm hi)]

theorem okStrTo_inv {s t et : Nat} {k : IntKind} (h : okStrTo P s t et k = true) : ∃ e, P.underlying s = some .string ∧ P.underlying t = some (.slice et) ∧ P.underlying e = some (.int k) ∧ e = et := by
  unfold okStrTo at h
  split at h
  · rename_i e h1 h2
    simp only [Bool.and_eq_true] at h
    have he := Nat.eq_of_beq_eq_true h.1
    subst he
    have h3 := h.2
    split at h3
    · rename_i k' hk
      simp at h3; subst h3
      exact ⟨_, h1, h2, hk, rfl⟩
    · cases h3
  · cases h

theorem cut_cap (w : World) (n : Nat) (e : TypeId) (hn : n < 2 ^ 63) : ∃ cap, n ≤ cap ∧ ∃ w2, w2.heap = w.heap ∧ w2.output = w.output ∧ w2.os = w.os ∧ (choose (.appendCap n 0 e)).run P w = .ok cap w2 := by
  refine ⟨n + w.tape w.drawn (.appendCap n 0 e) % (2 ^ 63 - n), by omega, w.drew, rfl, rfl, rfl, ?_⟩
  rfl

theorem m_strBytes {et : Nat} {x : AOpd} (hok : ok_strBytes P et x o.op = true) (ha : TR P f tm a.tmps) (hv : op_strBytes et x tm { σ with next := id } = some (v, σ')) : MakeOK P f o a (.strBytes et x) tm id v := by
  unfold ok_strBytes at hok
  split at hok
  · rename_i s t y ho
    simp only [Bool.and_eq_true] at hok
    obtain ⟨hy, ht⟩ := hok
    obtain ⟨e, u1, u2, u3, rfl⟩ := okStrTo_inv ht
    obtain ⟨u, h1, h2⟩ := bind_some hv
    have hc := opd_sound hy ha h1
    split at h2
    · rename_i str
      have hb2 : str.length ≤ 1048576 := by
        split at h2 <;> first | (rename_i hh; exact hh) | cases h2
      rw [if_pos hb2] at h2
      cases h2
      simp only [VR] at hc
      obtain ⟨b, hc, hbs⟩ := hc
      have hlen : b.size = str.length := by rw [← hbs, List.length_map]; rfl
      refine ⟨.cells (str.map fun (c : Nat) => AV.int .u8 (Int.ofNat c)) false, rfl, fun σ => by show op_strBytes _ _ tm _ = _; simp [op_strBytes, h1, hb2, AS.alloc], fun w => ?_⟩
      obtain ⟨cap, hcap, w2, k1, k2, k3, k4⟩ := cut_cap (P := P) w b.size e (by omega)
      let elems : Array Value := b.data.map fun c => .int .u8 c.toNat
      let row : Array Value := elems ++ Array.replicate (cap - b.size) (.int .u8 0)
      have hes : elems.size = b.size := by simp [elems]
      have hrow : row.size = cap := by simp [row, hes]; omega
      let w3 : World := w2.alloc (.cells row e)
      let w4 : World := w3.freeze ⟨w2.heap.size, row.size, none⟩ 1
      have hsz2 : w2.heap.size = w.heap.size := by rw [k1]
      have hget : w4.heap[w.heap.size]? = some (.cells row e (row.size, row.size + 1)) := by
        show (World.freeze _ _ 1).heap[w.heap.size]? = _
        unfold World.freeze
        rw [if_neg (by decide)]
        show (w3.heap.modify w2.heap.size _)[w.heap.size]? = _
        rw [Array.getElem?_modify, hsz2, if_pos rfl]
        have : w3.heap[w.heap.size]? = some (.cells row e) := by rw [← hsz2]; exact alloc_new w2 _
        rw [this]
        rfl
      refine ⟨(w.heap.size, 0, row.size), .slice (some ⟨w.heap.size, 0, none⟩) b.size cap, w4, ?_, ⟨rfl, fun i hi => ?_, ?_, ?_, ?_⟩, fun f' hsub hf => ⟨?_, ?_⟩⟩
      · have hsh : (w3.shape? w2.heap.size) = some (e, row.size) := by
          have : w3.heap[w2.heap.size]? = some (.cells row e) := alloc_new w2 _
          simp [World.shape?, this]
        simp only [execOp, ho, convert, Sem.run_bind, run_underlying' u1, run_underlying' u2, run_underlying' u3, Result.andThen_ok, hc, Conv.stringToBytes, k4, newRow, run_newObj, Sem.run_pure, markStringish, run_shape]
        have e1 : ({ w2 with heap := w2.heap.push (.cells row e) } : World) = w3 := rfl
        simp only [elems, row] at e1
        rw [e1, hsh]
        simp only [run_freeze, Result.andThen_ok, Sem.run_bind, Sem.run_pure]
        rw [← hsz2]
      · show (World.freeze _ _ 1).heap[i]? = _
        rw [freeze_heap _ _ _ _ (by decide) _ (by omega)]
        rw [← k1]; exact alloc_old w2 _ (by rw [hsz2]; exact hi)
      · show _ < (World.freeze _ _ 1).heap.size
        unfold World.freeze
        rw [if_neg (by decide)]
        show _ < (w3.heap.modify _ _).size
        simp [w3, k1]
      · show (World.freeze _ _ 1).output = _
        unfold World.freeze; rw [if_neg (by decide)]; exact k2
      · show (World.freeze _ _ 1).os = _
        unfold World.freeze; rw [if_neg (by decide)]; exact k3
      · refine ⟨w.heap.size, 0, row.size, row, e, _, hf, hget, rfl, by simp; omega, fun i x hx => ?_, fun _ => .inr (Nat.le_refl _)⟩
        have hvr := bytes_sound (P := P) hbs f'
        refine ⟨?_, ?_⟩
        · have := map_int_scalar str .u8
          rw [List.all_eq_true] at this
          exact this _ (List.mem_of_getElem? hx)
        · obtain ⟨u, g1, g2⟩ := hvr.get hx
          have hi : i < elems.size := by
            have := (List.getElem?_eq_some_iff.1 hx).1
            simp at this; omega
          refine ⟨u, ?_, g2⟩
          simp only [Nat.zero_add, row]
          rw [Array.getElem?_append_left hi]
          simpa [elems] using g1
      · simp only [VR]
        exact ⟨_, _, _, _, _, hf, by rw [hlen], Nat.le_refl _, by omega, .inr (by simp), trivial⟩
    · cases h2
  · cases hok

theorem toBytes_eq {b : ByteArray} {s : List Nat} (h : b.data.toList.map UInt8.toNat = s) : toBytes s = b := by
  subst h
  unfold toBytes
  rw [List.map_map]
  have : (UInt8.ofNat ∘ UInt8.toNat) = id := funext fun x => by simp
  rw [this, List.map_id]

theorem runes_eq (s : ByteArray) (f : FM) : ∀ (n i : Nat) (acc : Array Value), ∃ l : List Value, Conv.runesFrom s n i acc = acc ++ l.toArray ∧ VRs P f (decs s n i) l
  | 0, i, acc => ⟨[], by simp [Conv.runesFrom], by simp [decs, VRs]⟩
  | n + 1, i, acc => by
    unfold Conv.runesFrom decs
    by_cases h : i < s.size
    · rw [if_pos h, if_pos h]
      obtain ⟨l, h1, h2⟩ := runes_eq s f n (i + (Utf8.decode s i).2) (acc.push (.int .i32 (Int.ofNat (Utf8.decode s i).1)))
      exact ⟨.int .i32 (Int.ofNat (Utf8.decode s i).1) :: l, by show Conv.runesFrom s n (i + (Utf8.decode s i).2) (acc.push (.int .i32 (Int.ofNat (Utf8.decode s i).1))) = _; rw [h1]; simp, by simp only [VRs]; exact ⟨_, _, rfl, by simp [VR], h2⟩⟩
    · rw [if_neg h, if_neg h]
      exact ⟨[], by simp, by simp [VRs]⟩

theorem decs_scalar (s : ByteArray) : ∀ n i, (decs s n i).all AV.scalar = true
  | 0, _ => rfl
  | n + 1, i => by
    unfold decs
    split
    · simp only [List.all_cons, decs_scalar s n, Bool.and_true]; rfl
    · rfl
theorem decs_length (s : ByteArray) : ∀ n i, (decs s n i).length ≤ n
  | 0, _ => by simp [decs]
  | n + 1, i => by
    unfold decs
    split
    · have := decs_length s n (i + (Utf8.decode s i).2); simp; omega
    · simp

theorem m_strRunes {et : Nat} {x : AOpd} (hok : ok_strRunes P et x o.op = true) (ha : TR P f tm a.tmps) (hv : op_strRunes et x tm { σ with next := id } = some (v, σ')) : MakeOK P f o a (.strRunes et x) tm id v := by
  unfold ok_strRunes at hok
  split at hok
  · rename_i s t y ho
    simp only [Bool.and_eq_true] at hok
    obtain ⟨hy, ht⟩ := hok
    obtain ⟨e, u1, u2, u3, rfl⟩ := okStrTo_inv ht
    obtain ⟨u, h1, h2⟩ := bind_some hv
    have hc := opd_sound hy ha h1
    split at h2
    · rename_i str
      have hb2 : str.length ≤ 1048576 := by
        split at h2 <;> first | (rename_i hh; exact hh) | cases h2
      rw [if_pos hb2] at h2
      cases h2
      simp only [VR] at hc
      obtain ⟨b, hc, hbs⟩ := hc
      have hlen : b.size = str.length := by rw [← hbs, List.length_map]; rfl
      have htb := toBytes_eq hbs
      let l := decs (toBytes str) str.length 0
      have hll : l.length ≤ str.length := decs_length _ _ _
      refine ⟨.cells l false, rfl, fun σ => by show op_strRunes _ _ tm _ = _; simp [op_strRunes, h1, hb2, AS.alloc, l], fun w => ?_⟩
      obtain ⟨rl, g1, g2⟩ := runes_eq (P := P) b f b.size 0 #[]
      rw [hlen, ← htb] at g2
      have g1' : Conv.runesFrom b b.size 0 #[] = rl.toArray := by rw [g1]; simp
      have hrl : rl.length = l.length := g2.length
      obtain ⟨cap, hcap, w2, k1, k2, k3, k4⟩ := cut_cap (P := P) w rl.length e (by omega)
      let row : Array Value := rl.toArray ++ Array.replicate (cap - rl.length) (.int .i32 0)
      have hrow : row.size = cap := by simp [row]; omega
      have hsz2 : w2.heap.size = w.heap.size := by rw [k1]
      refine ⟨(w.heap.size, 0, row.size), .slice (some ⟨w.heap.size, 0, none⟩) rl.length cap, w2.alloc (.cells row e), ?_, ⟨rfl, fun i hi => ?_, ?_, k2, k3⟩, fun f' hsub hf => ⟨?_, ?_⟩⟩
      · simp only [execOp, ho, convert, Sem.run_bind, run_underlying' u1, run_underlying' u2, run_underlying' u3, Result.andThen_ok, hc, Conv.stringToRunes, g1', List.size_toArray, k4, newRow, run_newObj, Sem.run_pure]
        rw [hsz2]
        rfl
      · rw [← k1]; exact alloc_old w2 _ (by rw [hsz2]; exact hi)
      · simp [hsz2]
      · refine ⟨w.heap.size, 0, row.size, row, e, (0, 0), hf, by rw [← hsz2]; exact alloc_new w2 _, rfl, by have : (decs (toBytes str) str.length 0).length = rl.length := hrl.symm; omega, fun i x hx => ?_, fun _ => .inl rfl⟩
        refine ⟨?_, ?_⟩
        · have := decs_scalar (toBytes str) str.length 0
          rw [List.all_eq_true] at this
          exact this _ (List.mem_of_getElem? hx)
        · obtain ⟨u, g3, g4⟩ := (g2.mono hsub).get hx
          have hi : i < rl.length := (List.getElem?_eq_some_iff.1 g3).1
          refine ⟨u, ?_, g4⟩
          simp only [Nat.zero_add, row]
          rw [Array.getElem?_append_left (by simpa using hi)]
          simpa using g3
      · simp only [VR]
        have e9 : (decs (toBytes str) str.length 0).length = rl.length := hrl.symm
        exact ⟨_, _, _, _, _, hf, by rw [hrl], Nat.le_refl _, by omega, .inr (by simp), trivial⟩
    · cases h2
  · cases hok

/-- ALL THAT MAKES MEMORY. -/
theorem make_sound {ao : AOp} (hc : cls ao = 2) (hok : okOp P ao o.op = true) (ha : TR P f tm a.tmps) (hv : opV ao tm { σ with next := id } = some (v, σ')) : MakeOK P f o a ao tm id v := by
  cases ao <;> first | (simp [cls] at hc; done) | skip
  case new => exact m_new hok hv
  case box => exact m_box hok ha hv
  case buildSlice => exact m_buildSlice hok ha hv
  case strBytes => exact m_strBytes hok ha hv
  case strRunes => exact m_strRunes hok ha hv
  case mkMap => exact m_mkMap hok hv
  case mkSlice => exact m_mkSlice hok ha hv

end Go.AM
