/- Each operation that only reckons, further: numbers, text, structs, slices, addresses. -/
import Derived.Test.YtbapopkhebnbpaaAm5
namespace Go.AM
open Go

variable {P : Program} {f : FM} {tm : T AV} {σ σ' : AS} {a : Act} {v : AV} {o : Oper}

theorem wrapSlow_eq (k : IntKind) (n : Int) : wrapSlow k n = k.wrap n := by
  unfold wrapSlow
  cases h : (decide (lo k ≤ n) && decide (n ≤ hi k)) with
  | false => rfl
  | true =>
    simp only [cond_true]
    simp only [Bool.and_eq_true, decide_eq_true_eq] at h
    cases k <;> simp only [lo, hi] at h <;> simp only [IntKind.wrap, IntKind.signed, IntKind.bits, Bool.true_and, Bool.false_and, decide_eq_true_eq, Bool.false_eq_true, if_false, Nat.reduceSub, Int.reducePow, ge_iff_le]
    case i8 => by_cases h0 : (128 : Int) ≤ n % 256 <;> simp only [h0, if_true, if_false] <;> omega
    case i16 => by_cases h0 : (32768 : Int) ≤ n % 65536 <;> simp only [h0, if_true, if_false] <;> omega
    case i32 => by_cases h0 : (2147483648 : Int) ≤ n % 4294967296 <;> simp only [h0, if_true, if_false] <;> omega
    case i64 => by_cases h0 : (9223372036854775808 : Int) ≤ n % 18446744073709551616 <;> simp only [h0, if_true, if_false] <;> omega
    all_goals omega
theorem wrapF_eq (k : IntKind) (n : Int) : wrapF k n = k.wrap n := by
  unfold wrapF
  cases n with
  | ofNat m =>
    dsimp only
    cases h : Nat.ble m 127 with
    | false => simp only [cond_false]; exact wrapSlow_eq _ _
    | true =>
      have := Nat.le_of_ble_eq_true h
      simp only [cond_true]
      rw [← wrapSlow_eq]
      unfold wrapSlow
      have : (decide (lo k ≤ Int.ofNat m) && decide (Int.ofNat m ≤ hi k)) = true := by
        simp only [Bool.and_eq_true, decide_eq_true_eq]
        cases k <;> simp only [lo, hi] <;> simp <;> omega
      rw [this]; rfl
  | negSucc m => exact wrapSlow_eq _ _
theorem kEq_iff {j k : IntKind} : kEq j k = true ↔ j = k := by
  cases j <;> cases k <;> simp [kEq, kn]

theorem intOp_sound {op : BinOp} {k : IntKind} {x y : Int} {r : AV} (h : intOp op k x y = some r) (hs : op ≠ .shl) (hs' : op ≠ .shr) :
    ∃ rv, VR P f r rv ∧ ∀ (t : Nat) (w : World), (binOp op t (.int k x) (.int k y)).run P w = .ok rv w := by
  cases op <;> first | (exact absurd rfl hs) | (exact absurd rfl hs') | skip
  all_goals simp only [intOp] at h
  case add => cases h; exact ⟨_, rfl, fun t w => by simp [binOp, Op.intArith, wrapF_eq]⟩
  case sub => cases h; exact ⟨_, rfl, fun t w => by simp [binOp, Op.intArith, wrapF_eq]⟩
  case mul => cases h; exact ⟨_, rfl, fun t w => by simp [binOp, Op.intArith, wrapF_eq]⟩
  case quo =>
    by_cases hy : y = 0
    · simp [hy] at h
    · simp [hy] at h; subst h
      exact ⟨_, rfl, fun t w => by simp [binOp, Op.intDiv, hy, wrapF_eq]⟩
  case rem =>
    by_cases hy : y = 0
    · simp [hy] at h
    · simp [hy] at h; subst h
      exact ⟨_, rfl, fun t w => by simp [binOp, Op.intDiv, hy]⟩
  case and => cases h; exact ⟨_, rfl, fun t w => by simp only [binOp, Op.intBits]; simp⟩
  case or => cases h; exact ⟨_, rfl, fun t w => by simp only [binOp, Op.intBits]; simp⟩
  case xor => cases h; exact ⟨_, rfl, fun t w => by simp only [binOp, Op.intBits]; simp⟩
  case eql => cases h; exact ⟨_, rfl, fun t w => by simp [binOp, Op.intCmp]; rfl⟩
  case neq => cases h; exact ⟨_, rfl, fun t w => by simp [binOp, Op.intCmp, bne]; rfl⟩
  case lss => cases h; exact ⟨_, rfl, fun t w => by simp [binOp, Op.intCmp]⟩
  case leq => cases h; exact ⟨_, rfl, fun t w => by simp [binOp, Op.intCmp]⟩
  case gtr => cases h; exact ⟨_, rfl, fun t w => by simp [binOp, Op.intCmp]⟩
  case geq => cases h; exact ⟨_, rfl, fun t w => by simp [binOp, Op.intCmp]⟩
  case andNot => cases h

theorem strEq_iff : ∀ (x y : List Nat), strEq x y = decide (x = y)
  | [], [] => by simp [strEq]
  | [], _ :: _ => by simp [strEq]
  | _ :: _, [] => by simp [strEq]
  | a :: x, b :: y => by
    simp only [strEq, strEq_iff x y]
    cases h : Nat.beq a b
    · have := Nat.ne_of_beq_eq_false h; simp [this]
    · have := Nat.eq_of_beq_eq_true h; simp [this]
theorem map_toNat_inj : ∀ {x y : List UInt8}, x.map UInt8.toNat = y.map UInt8.toNat → x = y
  | [], [], _ => rfl
  | [], _ :: _, h => by simp at h
  | _ :: _, [], h => by simp at h
  | a :: x, b :: y, h => by
    have h1 := List.cons.inj h
    have e1 : a = b := UInt8.toNat_inj.1 h1.1
    have e2 : x = y := map_toNat_inj h1.2
    rw [e1, e2]

theorem strOp_sound {op : BinOp} {x y : List Nat} {r : AV} (h : strOp op x y = some r) {p q : ByteArray} (hp : p.data.toList.map UInt8.toNat = x) (hq : q.data.toList.map UInt8.toNat = y) :
    ∃ rv, VR P f r rv ∧ ∀ (t : Nat) (w : World), (binOp op t (.string p) (.string q)).run P w = .ok rv w := by
  have hlp : p.size = x.length := by rw [← hp, List.length_map]; rfl
  have hlq : q.size = y.length := by rw [← hq, List.length_map]; rfl
  have heq : (p.toList == q.toList) = strEq x y := by
    rw [strEq_iff, ByteArray.toList_eq, ByteArray.toList_eq]
    by_cases e : x = y
    · have : p.data.toList = q.data.toList := map_toNat_inj (by rw [hp, hq, e])
      simp [this, e]
    · have : p.data.toList ≠ q.data.toList := fun h => e (by rw [← hp, ← hq, h])
      simp only [e, decide_false]
      exact beq_eq_false_iff_ne.2 this
  cases op <;> simp only [strOp] at h <;> first | (cases h; done) | skip
  case add =>
    cases hb : Nat.ble (x.length + y.length) 1048576 with
    | false => simp [hb] at h
    | true =>
      simp [hb] at h; subst h
      have := Nat.le_of_ble_eq_true hb
      refine ⟨.string (p ++ q), ?_, fun t w => ?_⟩
      · simp only [VR]
        exact ⟨_, rfl, by simp [← hp, ← hq]⟩
      · simp only [binOp, Op.stringOp]
        rw [if_neg (by simp [IntKind.max, IntKind.signed, IntKind.bits]; omega)]
        simp
  case eql => cases h; exact ⟨_, rfl, fun t w => by simp only [binOp, Op.stringOp, heq]; simp⟩
  case neq => cases h; exact ⟨_, rfl, fun t w => by simp only [binOp, Op.stringOp, heq]; simp⟩

theorem p_bin {op : BinOp} {x y : AOpd} (hok : ok_bin P op x y o.op = true) (ha : TR P f tm a.tmps) (hv : op_bin op x y tm σ = some (v, σ')) : PureOK P f o a v σ σ' := by
  unfold ok_bin at hok
  split at hok
  · rename_i op' t p q ty ho
    simp only [Bool.and_eq_true, decide_eq_true_eq] at hok
    obtain ⟨⟨⟨rfl, hx⟩, hy⟩, _⟩ := hok
    obtain ⟨u1, h1, h2⟩ := bind_some hv
    obtain ⟨u2, h3, h4⟩ := bind_some h2
    obtain ⟨r, h5, h6⟩ := map_some h4
    cases h6
    have hp := opd_sound hx ha h1
    have hq := opd_sound hy ha h3
    refine ⟨rfl, ?_⟩
    have fin : ∀ rv, VR P f v rv → (∀ w, (binOp op t (a.eval p) (a.eval q)).run P w = .ok rv w) → (∀ w, (eqGuard op t p q (a.eval p) (a.eval q)).run P w = .ok () w) →
        ∃ rv, VR P f v rv ∧ ∀ w, (execOp a.eval o).run P w = .ok (.value rv) w := fun rv h1 h2 h3 => by
      refine ⟨rv, h1, fun w => ?_⟩
      unfold execOp
      rw [ho]
      dsimp only
      simp only [Sem.run_bind, h3, h2, Result.andThen_ok, Sem.run_pure]
    unfold binV at h5
    split at h5
    · rename_i k1 x1 k2 y1
      simp only [VR] at hp hq
      have hgd : ∀ w, (eqGuard op t p q (a.eval p) (a.eval q)).run P w = .ok () w := fun w => by
        rw [hp, hq]; unfold eqGuard; cases op <;> rfl
      split at h5
      · by_cases hy : y1 < 0
        · simp [hy] at h5
        · simp [hy] at h5; subst h5
          exact fin _ rfl (fun w => by rw [hp, hq]; simp only [binOp, Op.shift, if_neg hy]; rfl) hgd
      · by_cases hy : y1 < 0
        · simp [hy] at h5
        · simp [hy] at h5; subst h5
          exact fin _ rfl (fun w => by rw [hp, hq]; simp only [binOp, Op.shift, if_neg hy]; rfl) hgd
      · rename_i hs1 hs2
        cases hk : kEq k1 k2 with
        | false => simp [hk] at h5
        | true =>
          have := kEq_iff.1 hk; subst this
          simp [hk] at h5
          obtain ⟨rv, hr1, hr2⟩ := intOp_sound (P := P) (f := f) h5 hs1 hs2
          exact fin rv hr1 (fun w => by rw [hp, hq]; exact hr2 t w) hgd
    · simp only [VR] at hp hq
      obtain ⟨b1, hp, hb1⟩ := hp
      obtain ⟨b2, hq, hb2⟩ := hq
      obtain ⟨rv, hr1, hr2⟩ := strOp_sound (P := P) (f := f) h5 hb1 hb2
      exact fin rv hr1 (fun w => by rw [hp, hq]; exact hr2 t w) (fun w => by rw [hp, hq]; unfold eqGuard; cases op <;> rfl)
    · cases h5
  · cases hok

theorem p_neg {x : AOpd} (hok : ok_neg x o.op = true) (ha : TR P f tm a.tmps) (hv : op_neg x tm σ = some (v, σ')) : PureOK P f o a v σ σ' := by
  unfold ok_neg at hok
  split at hok
  · rename_i ty y ho
    obtain ⟨u, h1, h2⟩ := bind_some hv
    have hc := opd_sound hok ha h1
    split at h2
    · cases h2
      simp only [VR] at hc
      exact ⟨rfl, _, rfl, fun w => by simp [execOp, ho, hc, Op.unary, Op.intArith, wrapF_eq]⟩
    · cases h2
  · cases hok

theorem p_conv {k : IntKind} {x : AOpd} (hok : ok_conv P k x o.op = true) (ha : TR P f tm a.tmps) (hv : op_conv k x tm σ = some (v, σ')) : PureOK P f o a v σ σ' := by
  unfold ok_conv at hok
  split at hok
  · rename_i s t y ho
    simp only [Bool.and_eq_true] at hok
    obtain ⟨⟨hx, hs⟩, ht⟩ := hok
    obtain ⟨ds, hs⟩ := Option.isSome_iff_exists.1 hs
    split at ht
    · rename_i k' hu
      simp at ht; subst ht
      obtain ⟨u, h1, h2⟩ := bind_some hv
      have hc := opd_sound hx ha h1
      split at h2
      · cases h2
        simp only [VR] at hc
        refine ⟨rfl, _, rfl, fun w => ?_⟩
        simp only [execOp, ho, convert, Sem.run_bind, run_underlying' hs, run_underlying' hu, Result.andThen_ok, hc, Conv.intToInt, Sem.run_pure, wrapF_eq]
      · cases h2
    · cases ht
  · cases hok

theorem p_mkFunc {g : Nat} {first cap : List AOpd} (hok : ok_mkFunc g first cap o.op = true) (ha : TR P f tm a.tmps) (hv : op_mkFunc g first cap tm σ = some (v, σ')) : PureOK P f o a v σ σ' := by
  unfold ok_mkFunc at hok
  split at hok
  · rename_i g' x y ho
    simp only [Bool.and_eq_true] at hok
    obtain ⟨⟨hg, hx⟩, hy⟩ := hok
    have := Nat.eq_of_beq_eq_true hg; subst this
    obtain ⟨u1, h1, h2⟩ := bind_some hv
    obtain ⟨u2, h3, h4⟩ := map_some h2
    cases h4
    refine ⟨rfl, .func (.func g) (x.map a.eval) (y.map a.eval), ?_, fun w => by simp [execOp, ho, Instr.makeFunc]⟩
    simp only [VR]
    exact ⟨_, _, rfl, by simpa using opds_sound hx ha h1, by simpa using opds_sound hy ha h3⟩
  · cases hok

theorem p_extract {x : AOpd} {i : Nat} (hok : ok_extract x i o.op = true) (ha : TR P f tm a.tmps) (hv : op_extract x i tm σ = some (v, σ')) : PureOK P f o a v σ σ' := by
  unfold ok_extract at hok
  split at hok
  · rename_i y j ho
    simp only [Bool.and_eq_true] at hok
    have := Nat.eq_of_beq_eq_true hok.2; subst this
    obtain ⟨u, h1, h2⟩ := bind_some hv
    have hc := opd_sound hok.1 ha h1
    split at h2
    · obtain ⟨z, h3, h4⟩ := map_some h2
      cases h4
      simp only [VR] at hc
      obtain ⟨vs, hc, hvs⟩ := hc
      obtain ⟨rv, h5, h6⟩ := hvs.get h3
      refine ⟨rfl, rv, h6, fun w => ?_⟩
      have h5' : vs[i]? = some rv := by simpa using h5
      simp [execOp, ho, hc, Instr.extract, h5']
    · cases h2
  · cases hok

theorem run_len {x : Operand} {args : Array Operand} {argTypes : Array Nat} (ho : o.op = .call { callee := .builtin .len, args := args, argTypes := argTypes }) (hargs : args.toList = [x]) (w : World) {r : Value}
    (h : (Builtin.len_ argTypes o.type #[a.eval x]).run P w = .ok r w) : (execOp a.eval o).run P w = .ok (.value r) w := by
  have hargs' : args = #[x] := by cases args; simpa using hargs
  subst hargs'
  unfold execOp
  rw [ho]
  dsimp only
  simp only [resolve, invoke, builtin, Sem.run_bind, Sem.run_pure, Result.andThen_ok]
  simp [h]

theorem p_lenStr {x : AOpd} (hok : ok_lenStr P x o.op = true) (ha : TR P f tm a.tmps) (hv : op_lenStr x tm σ = some (v, σ')) : PureOK P f o a v σ σ' := by
  unfold ok_lenStr at hok
  split at hok
  · rename_i args argTypes ho
    split at hok
    · rename_i y t hargs ht
      simp only [Bool.and_eq_true] at hok
      obtain ⟨hx, hu⟩ := hok
      split at hu
      · rename_i hu'
        obtain ⟨u, h1, h2⟩ := bind_some hv
        have hc := opd_sound hx ha h1
        split at h2
        · cases h2
          simp only [VR] at hc
          obtain ⟨b, hc, hb⟩ := hc
          refine ⟨rfl, _, rfl, fun w => run_len ho hargs w ?_⟩
          have hs : (b.data.toList.map UInt8.toNat).length = b.size := by rw [List.length_map]; rfl
          rw [← hb, hs]
          simp [Builtin.len_, ht, run_underlying' hu', hc, goInt]
        · cases h2
      · cases hu
    · cases hok
  · cases hok

theorem p_lenSlc {x : AOpd} (hok : ok_lenSlc P x o.op = true) (ha : TR P f tm a.tmps) (hv : op_lenSlc x tm σ = some (v, σ')) : PureOK P f o a v σ σ' := by
  unfold ok_lenSlc at hok
  split at hok
  · rename_i args argTypes ho
    split at hok
    · rename_i y t hargs ht
      simp only [Bool.and_eq_true] at hok
      obtain ⟨hx, hu⟩ := hok
      split at hu
      · rename_i e hu'
        obtain ⟨u, h1, h2⟩ := bind_some hv
        have hc := opd_sound hx ha h1
        split at h2
        · rename_i b n c et ck
          cases h2
          have key : ∃ b' m c', a.eval y = .slice b' m c' ∧ m = n := by
            rcases b with _ | ⟨b, off⟩
            · simp only [VR] at hc; exact ⟨_, _, _, hc.2.2, hc.1.symm⟩
            · simp only [VR] at hc; obtain ⟨rb, off', rs, ad, rcap, _, hc, _⟩ := hc; exact ⟨_, _, _, hc, rfl⟩
          obtain ⟨b', m, c', hc2, rfl⟩ := key
          refine ⟨rfl, _, rfl, fun w => run_len ho hargs w ?_⟩
          simp [Builtin.len_, ht, run_underlying' hu', hc2, goInt]
        · cases h2
      · cases hu
    · cases hok
  · cases hok

end Go.AM
