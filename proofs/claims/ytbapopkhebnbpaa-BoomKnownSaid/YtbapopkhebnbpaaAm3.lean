/- When an operation, a code, a function of the small machine is the one of the program: a check that Lean's kernel reckons. -/
import Derived.Test.YtbapopkhebnbpaaAm2
namespace Go.AM
open Go

mutual
def okV : AV → Value → Bool
  | .bool a, .bool b => a == b
  | .int j a, .int k b => decide (j = k) && decide (a = b)
  | .str s, .string b => decide (b.data.toList.map UInt8.toNat = s)
  | .ptr none, .pointer none => true
  | .slc a l c _ _, .slice b m d => decide (a = none) && decide (b = none) && decide (l = 0) && decide (c = 0) && decide (m = 0) && decide (d = 0)
  | .map none, .map none => true
  | .nilFn, .nilFunc => true
  | .agg cs, .agg a => okVs cs a.toList
  | .tup cs, .tuple a => okVs cs a.toList
  | _, _ => false
def okVs : List AV → List Value → Bool
  | [], [] => true
  | x :: l, v :: r => okV x v && okVs l r
  | _, _ => false
end

mutual
theorem okV.vr {P : Program} {f : FM} : ∀ (x : AV) (v : Value), okV x v = true → VR P f x v
  | .bool a, v, h => by cases v <;> simp [okV] at h; simp [VR, h]
  | .int j a, v, h => by cases v <;> simp [okV] at h; simp [VR, h]
  | .str s, v, h => by cases v <;> simp [okV] at h; simpa [VR] using h
  | .ptr none, v, h => by
    cases v with
    | pointer a => cases a <;> simp [okV] at h; simp [VR]
    | _ => simp [okV] at h
  | .ptr (some _), v, h => by cases v <;> simp [okV] at h
  | .slc a l c et ck, v, h => by
    cases v <;> simp [okV] at h
    obtain ⟨⟨⟨⟨⟨rfl, rfl⟩, rfl⟩, rfl⟩, rfl⟩, rfl⟩ := h
    simp [VR]
  | .map none, v, h => by
    cases v with
    | map a => cases a <;> simp [okV] at h; simp [VR]
    | _ => simp [okV] at h
  | .map (some _), v, h => by cases v <;> simp [okV] at h
  | .fn _ _ _, v, h => by cases v <;> simp [okV] at h
  | .yld _, v, h => by cases v <;> simp [okV] at h
  | .nilFn, v, h => by cases v <;> simp [okV] at h; simp [VR]
  | .agg cs, v, h => by cases v <;> simp [okV] at h; simp only [VR]; exact ⟨_, rfl, okVs.vr cs _ h⟩
  | .tup cs, v, h => by cases v <;> simp [okV] at h; simp only [VR]; exact ⟨_, rfl, okVs.vr cs _ h⟩
theorem okVs.vr {P : Program} {f : FM} : ∀ (x : List AV) (v : List Value), okVs x v = true → VRs P f x v
  | [], [], _ => by simp [VRs]
  | [], _ :: _, h => by simp [okVs] at h
  | _ :: _, [], h => by simp [okVs] at h
  | x :: l, v :: r, h => by
    simp [okVs] at h
    simp only [VRs]
    exact ⟨v, r, rfl, okV.vr x v h.1, okVs.vr l r h.2⟩
end

def okO : AOpd → Operand → Bool
  | .tmp t, .tmp u => Nat.beq t u
  | .const v, .const w => okV v w
  | .func f, .func g => Nat.beq f g
  | _, _ => false
def okOs : List AOpd → List Operand → Bool
  | [], [] => true
  | x :: l, y :: r => okO x y && okOs l r
  | _, _ => false
def okOo : Option AOpd → Option Operand → Bool
  | none, none => true
  | some x, some y => okO x y
  | _, _ => false

variable (P : Program)

/-- The size of a type in cells; is a value of it one cell, or so many. -/
def okSz (t : Nat) (s : Sz) : Bool :=
  match P.underlying t, P.info? t with
  | some (.struct _), some i => decide (s = some i.size)
  | some (.array _ _), some i => decide (s = some i.size)
  | some _, some _ => decide (s = none)
  | _, _ => false
def okSize (t n : Nat) : Bool := match P.info? t with | some i => Nat.beq i.size n | none => false
def okInfo (t n by_ : Nat) : Bool := match P.info? t with | some i => Nat.beq i.size n && Nat.beq i.bytes by_ | none => false
def okZero (t : Nat) (zero : List AV) : Bool :=
  match P.info? t with
  | some i => match i.zero with | some z => okVs zero z.cells.toList && zero.all AV.scalar && Nat.beq zero.length i.size | none => false
  | none => false
def okZero1 (t : Nat) (zero : AV) : Bool :=
  match P.info? t with
  | some i => match i.zero with | some z => okV zero z | none => false
  | none => false

def okPartsS (fields : Array Field) : List (Nat × Nat × AOpd) → List (Nat × Operand) → Bool
  | [], [] => true
  | (o, n, x) :: l, (i, y) :: r =>
    (match fields[i]? with
     | some fd => Nat.beq fd.offset o && okSize P fd.type n
     | none => false) && okO x y && okPartsS fields l r
  | _, _ => false
def okPartsA (size : Nat) : List (Nat × Nat × AOpd) → List (Nat × Operand) → Bool
  | [], [] => true
  | (o, n, x) :: l, (i, y) :: r => Nat.beq (i * size) o && Nat.beq size n && okO x y && okPartsA size l r
  | _, _ => false
def okFieldsSized (fields : Array Field) : Bool := fields.toList.all fun fd => (P.info? fd.type).isSome

def ok_mv (x : AOpd) : Op → Bool
  | .move y | .assign y => okO x y
  | .call { callee := .builtin .len, args, argTypes } =>
    match x, argTypes[0]? with
    | .const (.int .i64 n), some t => (match P.underlying t with | some (.array m _) => decide ((m : Int) = n) && Nat.beq args.size 1 | _ => false)
    | _, _ => false
  | _ => false
def ok_pick (c a b : AOpd) : Op → Bool
  | .pick x y z => okO c x && okO a y && okO b z
  | _ => false
def ok_new (zero : List AV) : Op → Bool
  | .alloc t => okZero P t zero
  | _ => false
def ok_box (x : AOpd) : Op → Bool
  | .box _ y => okO x y
  | _ => false
def ok_build (zero : List AV) (parts : List (Nat × Nat × AOpd)) : Op → Bool
  | .build t ps => okZero P t zero &&
    match P.underlying t with
    | some (.struct fields) => okFieldsSized P fields && okPartsS P fields parts ps.toList
    | some (.array _ e) => match P.info? e with | some i => okPartsA i.size parts ps.toList | none => false
    | _ => false
  | _ => false
def ok_buildSlice (et n : Nat) (zero : List AV) (parts : List (Nat × Nat × AOpd)) : Op → Bool
  | .buildSlice t len ps => Nat.beq n len &&
    match P.underlying t with
    | some (.slice e) => Nat.beq e et &&
      match P.info? e with
      | some i => Nat.ble (len * i.size) 16777216 && okPartsA i.size parts ps.toList && Nat.blt 0 i.size &&
        match i.zero with
        | some z => okVs zero ((Array.range (len * i.size)).map (z.cells[· % z.cells.size]!)).toList && zero.all AV.scalar
        | none => false
      | none => false
    | _ => false
  | _ => false
def ok_load (s : Sz) (x : AOpd) : Op → Bool
  | .load t y => okO x y && okSz P t s
  | _ => false
def ok_store (n : Nat) (a v : AOpd) : Op → Bool
  | .store t y z => okO a y && okO v z && okSize P t n
  | _ => false
def ok_nilCheck (x : AOpd) : Op → Bool
  | .nilCheck y => okO x y
  | _ => false
def ok_bin (op : BinOp) (x y : AOpd) : Op → Bool
  | .binOp op' t a b _ => decide (op = op') && okO x a && okO y b && (P.underlying t).isSome
  | _ => false
def okIntField (fd : Field) : Bool := decide (fd.name ≠ "_") && match P.underlying fd.type with | some (.int _) => true | _ => false
def okIntFields : List Field → Nat → Bool
  | [], _ => true
  | fd :: r, i => okIntField P fd && Nat.beq fd.offset i && okIntFields r (i + 1)
/-- A struct, or an array, of whole numbers alone, of so many cells. -/
def okFlat (t n : Nat) : Bool :=
  match P.underlying t with
  | some (.struct fs) => !P.stoodInHeld t && okIntFields P fs.toList 0 && Nat.beq fs.size n
  | some (.array m e) => Nat.beq m n && (match P.underlying e, P.info? e with | some (.int _), some i => Nat.beq i.size 1 | _, _ => false)
  | _ => false
def sizeT (t : Nat) : Nat := match P.info? t with | some i => i.size | none => 0
def ok_eqAgg (n : Nat) (neg : Bool) (x y : AOpd) : Op → Bool
  | .binOp op t a b _ => (match op with | .eql => !neg | .neq => neg | _ => false) && okO x a && okO y b && okFlat P t n && !P.eqGuardType P.depth t
  | _ => false
def ok_eqB (neg : Bool) (x y : AOpd) : Op → Bool
  | .binOp op t a b _ => (match op with | .eql => !neg | .neq => neg | _ => false) && okO x a && okO y b && (match P.underlying t with | some .bool => true | _ => false)
  | _ => false
def ok_eqNilS (neg : Bool) (x : AOpd) : Op → Bool
  | .binOp op t a (.const (.slice none 0 0)) _ => (match op with | .eql => !neg | .neq => neg | _ => false) && okO x a && (match P.underlying t with | some (.slice _) => true | _ => false)
  | _ => false
def ok_eqNilP (neg : Bool) (x : AOpd) : Op → Bool
  | .binOp op t a (.const (.pointer none)) _ => (match op with | .eql => !neg | .neq => neg | _ => false) && okO x a && (match P.underlying t with | some (.pointer _) => true | _ => false)
  | _ => false
def ok_not (x : AOpd) : Op → Bool
  | .unOp .not _ y => okO x y
  | _ => false
def ok_neg (x : AOpd) : Op → Bool
  | .unOp .neg _ y => okO x y
  | _ => false
def ok_conv (k : IntKind) (x : AOpd) : Op → Bool
  | .convert s t y => okO x y && (P.underlying s).isSome && (match P.underlying t with | some (.int k') => decide (k = k') | _ => false)
  | _ => false
def okStrTo (s t et : Nat) (k : IntKind) : Bool :=
  match P.underlying s, P.underlying t with
  | some .string, some (.slice e) => Nat.beq e et && (match P.underlying e with | some (.int k') => decide (k' = k) | _ => false)
  | _, _ => false
def ok_strBytes (et : Nat) (x : AOpd) : Op → Bool
  | .convert s t y => okO x y && okStrTo P s t et .u8
  | _ => false
def ok_strRunes (et : Nat) (x : AOpd) : Op → Bool
  | .convert s t y => okO x y && okStrTo P s t et .i32
  | _ => false
def ok_sameBytes (x : AOpd) : Op → Bool
  | .convert s t y => okO x y && Nat.beq s t && (match P.underlying t with | some (.slice e) => (match P.underlying e with | some (.int .u8) => true | _ => false) | _ => false)
  | _ => false
def ok_mkFunc (f : Nat) (first cap : List AOpd) : Op → Bool
  | .makeFunc (.func g) a c => Nat.beq f g && okOs first a.toList && okOs cap c.toList
  | _ => false
def ok_mkMap : Op → Bool
  | .makeMap _ none => true
  | _ => false
def ok_mkSlice (et bytes : Nat) (zero : List AV) (l c : AOpd) : Op → Bool
  | .makeSlice t y z => okO l y && okO c z &&
    match P.underlying t with
    | some (.slice e) => Nat.beq e et && okZero P e zero && Nat.blt 0 zero.length && Nat.blt 0 bytes && (match P.info? e with | some i => Nat.beq i.bytes bytes | none => false)
    | _ => false
  | _ => false
def ok_slice (et esz : Nat) (x : AOpd) (lo hi mx : Option AOpd) : Op → Bool
  | .slice t y l h m => okO x y && okOo lo l && okOo hi h && okOo mx m && (match P.underlying t with | some (.slice e) => Nat.beq e et && okSize P e esz | _ => false)
  | _ => false
def ok_sliceArr (n et esz : Nat) (x : AOpd) (lo hi mx : Option AOpd) : Op → Bool
  | .slice t y l h m => okO x y && okOo lo l && okOo hi h && okOo mx m && (match P.underlying t with | some (.array k e) => Nat.beq k n && Nat.beq e et && okSize P e esz | _ => false)
  | _ => false
def ok_sliceStr (x : AOpd) (lo hi : Option AOpd) : Op → Bool
  | .slice t y l h none => okO x y && okOo lo l && okOo hi h && (match P.underlying t with | some .string => true | _ => false)
  | _ => false
def ok_fieldAddr (off : Nat) (x : AOpd) : Op → Bool
  | .fieldAddr t y i => okO x y &&
    match P.underlying t with
    | some (.struct fs) => (match fs[i]? with | some fd => Nat.beq fd.offset off && (match P.info? fd.type with | some j => Nat.blt 0 j.size | none => false) | none => false)
    | _ => false
  | _ => false
def ok_field (off : Nat) (s : Sz) (x : AOpd) : Op → Bool
  | .field t y i => okO x y &&
    match P.underlying t with
    | some (.struct fs) => (match fs[i]? with | some fd => Nat.beq fd.offset off && okSz P fd.type s | none => false)
    | _ => false
  | _ => false
def ok_idxAddrS (esz : Nat) (x i : AOpd) : Op → Bool
  | .indexAddr t y j => okO x y && okO i j && (match P.underlying t with | some (.slice e) => okSize P e esz | _ => false)
  | _ => false
def ok_idxAddrA (n esz : Nat) (x i : AOpd) : Op → Bool
  | .indexAddr t y j => okO x y && okO i j && (match P.underlying t with | some (.array k e) => Nat.beq k n && okSize P e esz | _ => false)
  | _ => false
def ok_idxA (n esz : Nat) (s : Sz) (x i : AOpd) : Op → Bool
  | .index t y j => okO x y && okO i j && (match P.underlying t with | some (.array k e) => Nat.beq k n && okSize P e esz && okSz P e s | _ => false)
  | _ => false
def ok_idxStr (x i : AOpd) : Op → Bool
  | .index t y j => okO x y && okO i j && (match P.underlying t with | some .string => true | _ => false)
  | _ => false
/-- A map's key: a whole number, or a struct of such. -/
def okKey (kn k : Nat) : Bool :=
  match P.underlying k with
  | some (.int _) => Nat.beq kn 0
  | some (.struct fs) => !P.stoodInHeld k && okIntFields P fs.toList 0 && Nat.beq fs.size kn && !Nat.beq kn 0
  | _ => false
def okMapT (kn t : Nat) (zero : Option AV) : Bool :=
  match P.underlying t with
  | some (.map k e) => okKey P kn k && (match zero with | some z => okZero1 P e z | none => true)
  | _ => false
def ok_lookup (kn : Nat) (zero : AV) (m k : AOpd) (ok : Bool) : Op → Bool
  | .lookup t y z c => okO m y && okO k z && (ok == c) && okMapT P kn t (some zero)
  | _ => false
def ok_mapUpdate (kn : Nat) (m k v : AOpd) : Op → Bool
  | .mapUpdate t y z u | .insert t y z u => okO m y && okO k z && okO v u && okMapT P kn t none
  | _ => false
def ok_mapEntry (kn : Nat) (zero : AV) (m k : AOpd) : Op → Bool
  | .mapEntry t y z => okO m y && okO k z && okMapT P kn t (some zero)
  | _ => false
def ok_entryStore (m s v : AOpd) : Op → Bool
  | .entryStore _ y z u => okO m y && okO s z && okO v u
  | _ => false
def ok_extract (x : AOpd) (i : Nat) : Op → Bool
  | .extract y j => okO x y && Nat.beq i j
  | _ => false
def ok_call (f : AOpd) (args : List AOpd) : Op → Bool
  | .call { callee := .value g, args := as, .. } => okO f g && okOs args as.toList
  | _ => false
def ok_lenStr (x : AOpd) : Op → Bool
  | .call { callee := .builtin .len, args, argTypes } =>
    (match args.toList, argTypes[0]? with | [y], some t => okO x y && (match P.underlying t with | some .string => true | _ => false) | _, _ => false)
  | _ => false
def ok_lenSlc (x : AOpd) : Op → Bool
  | .call { callee := .builtin .len, args, argTypes } =>
    (match args.toList, argTypes[0]? with | [y], some t => okO x y && (match P.underlying t with | some (.slice _) => true | _ => false) | _, _ => false)
  | _ => false
def ok_lenMap (x : AOpd) : Op → Bool
  | .call { callee := .builtin .len, args, argTypes } =>
    (match args.toList, argTypes[0]? with | [y], some t => okO x y && (match P.underlying t with | some (.map _ _) => true | _ => false) | _, _ => false)
  | _ => false
def ok_append (et esz bytes : Nat) (s x : AOpd) : Op → Bool
  | .call { callee := .builtin .append, args, argTypes } =>
    match args.toList, argTypes.toList with
    | [y, z], [t, u] => okO s y && okO x z && Nat.blt 0 esz && Nat.blt 0 bytes &&
      (match P.underlying t with | some (.slice e) => Nat.beq e et && okInfo P e esz bytes && ((P.info? e).any fun i => i.zero.any fun z => Nat.beq z.cells.size i.size) | _ => false) &&
      (match P.underlying u with | some (.int _) => false | some _ => true | none => false)
    | _, _ => false
  | _ => false
def ok_copy (esz : Nat) (d s : AOpd) : Op → Bool
  | .call { callee := .builtin .copy, args, argTypes } =>
    match args.toList, argTypes[0]? with
    | [y, z], some t => okO d y && okO s z && (match P.underlying t with | some (.slice e) => okSize P e esz | _ => false)
    | _, _ => false
  | _ => false
def ok_clear (zero : List AV) (x : AOpd) : Op → Bool
  | .call { callee := .builtin .clear, args, argTypes } =>
    match args.toList, argTypes[0]? with
    | [y], some t => okO x y && Nat.blt 0 zero.length && (match P.underlying t with | some (.slice e) => okZero P e zero | _ => false)
    | _, _ => false
  | _ => false
def ok_delete (kn : Nat) (m k : AOpd) : Op → Bool
  | .call { callee := .builtin .delete, args, argTypes } =>
    match args.toList, argTypes[0]? with
    | [y, z], some t => okO m y && okO k z && okMapT P kn t none
    | _, _ => false
  | _ => false
def ok_min (xs : List AOpd) : Op → Bool
  | .call { callee := .builtin .min, args, .. } => okOs xs args.toList
  | _ => false
def ok_max (xs : List AOpd) : Op → Bool
  | .call { callee := .builtin .max, args, .. } => okOs xs args.toList
  | _ => false

def okOp (a : AOp) : Op → Bool :=
  match a with
  | .mv x => ok_mv P x
  | .pick c a b => ok_pick c a b
  | .new z => ok_new P z
  | .box x => ok_box x
  | .build z p => ok_build P z p
  | .buildSlice e n z p => ok_buildSlice P e n z p
  | .load s x => ok_load P s x
  | .store n a v => ok_store P n a v
  | .nilCheck x => ok_nilCheck x
  | .bin op x y => ok_bin P op x y
  | .eqAgg k n x y => ok_eqAgg P k n x y
  | .eqB n x y => ok_eqB P n x y
  | .eqNilS n x => ok_eqNilS P n x
  | .eqNilP n x => ok_eqNilP P n x
  | .not x => ok_not x
  | .neg x => ok_neg x
  | .conv k x => ok_conv P k x
  | .strBytes e x => ok_strBytes P e x
  | .strRunes e x => ok_strRunes P e x
  | .sameBytes x => ok_sameBytes P x
  | .mkFunc f a c => ok_mkFunc f a c
  | .mkMap => ok_mkMap
  | .mkSlice e b z l c => ok_mkSlice P e b z l c
  | .slice e n x l h m => ok_slice P e n x l h m
  | .sliceArr n e s x l h m => ok_sliceArr P n e s x l h m
  | .sliceStr x l h => ok_sliceStr P x l h
  | .fieldAddr o x => ok_fieldAddr P o x
  | .field o s x => ok_field P o s x
  | .idxAddrS n x i => ok_idxAddrS P n x i
  | .idxAddrA n e x i => ok_idxAddrA P n e x i
  | .idxA n e s x i => ok_idxA P n e s x i
  | .idxStr x i => ok_idxStr P x i
  | .lookup n z m k b => ok_lookup P n z m k b
  | .mapUpdate n m k v => ok_mapUpdate P n m k v
  | .mapEntry n z m k => ok_mapEntry P n z m k
  | .entryStore m s v => ok_entryStore m s v
  | .extract x i => ok_extract x i
  | .call f a => ok_call f a
  | .lenStr x => ok_lenStr P x
  | .lenSlc x => ok_lenSlc P x
  | .lenMap x => ok_lenMap P x
  | .append e n b s x => ok_append P e n b s x
  | .copy n d s => ok_copy P n d s
  | .clear z x => ok_clear P z x
  | .delete n m k => ok_delete P n m k
  | .min l => ok_min l
  | .max l => ok_max l

/-- One operation, in a region of these: its place to write, its guard, its work. -/
def okOper (n : Nat) (ops : Array Oper) (a : AOper) (o : Oper) : Bool :=
  decide (a.dst = o.dst) && (match o.dst with | some d => Nat.blt d n | none => true) &&
  (match a.guard, o.guard with
   | none, none => true
   | some (s, w), some (j, v) => (w == v) && decide ((ops[j]?).bind (·.dst) = some s)
   | _, _ => false) && okOp P a.op o.op
def okPlain (n : Nat) (ops : Array Oper) : List Stp → List Oper → Bool
  | [], [] => true
  | .ex _ a :: l, o :: r => okOper P n ops a o && okPlain n ops l r
  | _, _ => false

def oSlots : AOpd → List Nat
  | .tmp t => [t]
  | _ => []
def ooSlots : Option AOpd → List Nat
  | some x => oSlots x
  | none => []
def pSlots : List (Nat × Nat × AOpd) → List Nat
  | [] => []
  | (_, _, x) :: r => oSlots x ++ pSlots r
def lSlots : List AOpd → List Nat
  | [] => []
  | x :: r => oSlots x ++ lSlots r
def slots : AOp → List Nat
  | .mv x | .box x | .load _ x | .nilCheck x | .eqNilS _ x | .eqNilP _ x | .not x | .neg x | .conv _ x | .strBytes _ x | .strRunes _ x | .sameBytes x
  | .fieldAddr _ x | .field _ _ x | .extract x _ | .lenStr x | .lenSlc x | .lenMap x | .clear _ x => oSlots x
  | .pick c a b => oSlots c ++ (oSlots a ++ oSlots b)
  | .new _ | .mkMap => []
  | .build _ ps | .buildSlice _ _ _ ps => pSlots ps
  | .store _ a v | .bin _ a v | .eqAgg _ _ a v | .eqB _ a v | .mkSlice _ _ _ a v | .idxAddrS _ a v | .idxAddrA _ _ a v | .idxA _ _ _ a v | .idxStr a v
  | .lookup _ _ a v _ | .mapEntry _ _ a v | .append _ _ _ a v | .copy _ a v | .delete _ a v => oSlots a ++ oSlots v
  | .mkFunc _ a c => lSlots a ++ lSlots c
  | .slice _ _ x l h m | .sliceArr _ _ _ x l h m => oSlots x ++ (ooSlots l ++ (ooSlots h ++ ooSlots m))
  | .sliceStr x l h => oSlots x ++ (ooSlots l ++ ooSlots h)
  | .mapUpdate _ a b c | .entryStore a b c => oSlots a ++ (oSlots b ++ oSlots c)
  | .call f l => oSlots f ++ lSlots l
  | .min l | .max l => lSlots l
def gSlots : Option (Nat × Bool) → List Nat
  | some (s, _) => [s]
  | none => []
/-- The slots that an operation looks at. -/
def looks (a : AOper) : List Nat := gSlots a.guard ++ slots a.op

def direct (ops : Array Oper) (i : Nat) : List Nat :=
  match ops[i]? with
  | some o => (o.after.toList.filter (Region.binds .any ·)).map (·.on)
  | none => []
/-- j is ahead of i, by the region's own edges. -/
def reach (ops : Array Oper) : Nat → Nat → Nat → Bool
  | 0, _, _ => false
  | n + 1, j, i => (direct ops i).any fun e => Nat.beq e j || reach ops n j e
def ahead (ops : Array Oper) (j i : Nat) : Bool := reach ops (ops.size + 1) j i

def Stp.idx : Stp → Nat
  | .ex i _ | .re i _ | .al i _ _ => i
def Stp.oper : Stp → AOper
  | .ex _ o | .re _ o | .al _ _ o => o
/-- The step at which an operation is carried out, and its kind. -/
def Stp.does : Stp → Bool
  | .re _ _ => false
  | _ => true
def Stp.loud : Stp → Bool
  | .ex _ o => Nat.beq (cls o.op) 3
  | _ => false
def Stp.looksMem : Stp → Bool
  | .ex _ o => Nat.beq (cls o.op) 1
  | .re _ _ => true
  | .al .. => false
def Stp.makes : Stp → Bool
  | .al .. => true
  | _ => false

/-- Each step is an operation of the region, in a kind that fits it. -/
def okStp (n : Nat) (ops : Array Oper) (kept : Nat) (s : Stp) : Bool :=
  (match ops[s.idx]? with | some o => okOper P n ops s.oper o | none => false) &&
  (match s with
   | .ex _ o => !Nat.beq (cls o.op) 2
   | .re _ o => Nat.beq (cls o.op) 1 && o.dst.isSome
   | .al _ j o => Nat.beq (cls o.op) 2 && Nat.blt j kept)
def idxs : List Stp → List Nat
  | [] => []
  | s :: r => bif s.does then s.idx :: idxs r else idxs r
def alNos : List Stp → List Nat
  | [] => []
  | .al _ j _ :: r => j :: alNos r
  | _ :: r => alNos r
def nodup : List Nat → Bool
  | [] => true
  | x :: r => !r.contains x && nodup r
/-- The order keeps the region's edges. -/
def okOrder (ops : Array Oper) : List Nat → List Stp → Bool
  | _, [] => true
  | done, s :: r => bif s.does then (direct ops s.idx).all (done.contains ·) && okOrder ops (s.idx :: done) r else done.contains s.idx && okOrder ops done r
/-- The next loud step behind. -/
def nextLoud : List Stp → Option Nat
  | [] => none
  | s :: r => bif s.loud then some s.idx else nextLoud r
/-- Is this operation read anew ahead of the next loud step? -/
def rereads (i : Nat) : List Stp → Bool
  | [] => false
  | s :: r => bif s.loud then false else (match s with | .re k _ => Nat.beq k i | _ => false) || rereads i r
/-- What is read at i may be read at any later stage, till a loud step that waits for it. -/
def okRead (ops : Array Oper) (i : Nat) : List Stp → Bool
  | [] => true
  | s :: r => bif s.loud then ahead ops i s.idx || (rereads i r && okRead ops i r) else okRead ops i r
/-- Along the steps: last loud one, whether memory was made since. -/
def okStages (ops : Array Oper) : Option Nat → Bool → List Stp → Bool
  | _, _, [] => true
  | last, made, s :: r =>
    bif s.loud then (match last with | some l => ahead ops l s.idx | none => true) && okStages ops (some s.idx) false r
    else bif s.makes then (match nextLoud r with | some l => ahead ops s.idx l | none => true) && okStages ops last true r
    else bif s.looksMem then !made && (bif s.does then (match last with | some l => ahead ops l s.idx | none => true) && okRead ops s.idx r else true) && okStages ops last made r
    else okStages ops last made r
/-- No slot is written twice; who looks at a slot that is written here stands ahead of that, or behind it. -/
def okSlots (ops : Array Oper) (all : List Stp) : List Stp → Bool
  | [] => true
  | s :: r => (all.all fun q => bif !s.does || !q.does || Nat.beq q.idx s.idx then true else
      match s.oper.dst with
      | none => true
      | some d => !decide (q.oper.dst = some d) && (bif (looks q.oper).contains d then ahead ops s.idx q.idx || ahead ops q.idx s.idx else true)) && okSlots ops all r
/-- What is read anew looks at no slot that is written behind it. -/
def okRe (ops : Array Oper) (all : List Stp) : List Stp → Bool
  | [] => true
  | .re i o :: r => (all.all fun q => bif !q.does then true else match q.oper.dst with | some d => bif (looks o).contains d then ahead ops q.idx i else true | none => true) && okRe ops all r
  | _ :: r => okRe ops all r
/-- None looks at what it writes itself. -/
def okSelf : List Stp → Bool
  | [] => true
  | s :: r => (match s.oper.dst with | some d => !(looks s.oper).contains d | none => true) && okSelf r
def opdBeq : AOpd → AOpd → Bool
  | .tmp a, .tmp b => Nat.beq a b
  | .const v, .const w => v.beq w
  | .func a, .func b => Nat.beq a b
  | _, _ => false
def readBeq : AOp → AOp → Bool
  | .load s x, .load s' x' => decide (s = s') && opdBeq x x'
  | .lookup n z m k o, .lookup n' z' m' k' o' => Nat.beq n n' && z.beq z' && opdBeq m m' && opdBeq k k' && (o == o')
  | .lenMap x, .lenMap x' => opdBeq x x'
  | _, _ => false
def operBeq (a b : AOper) : Bool := decide (a.dst = b.dst) && decide (a.guard = b.guard) && readBeq a.op b.op
/-- What is read anew is what was read. -/
def okTwin (all : List Stp) : List Stp → Bool
  | [] => true
  | .re i o :: r => (all.all fun q => bif Nat.beq q.idx i then operBeq q.oper o else true) && okTwin all r
  | _ :: r => okTwin all r
def okDraw (n : Nat) (ops : Array Oper) (kept : Nat) (steps : List Stp) : Bool :=
  steps.all (okStp P n ops kept) && nodup (idxs steps) && Nat.beq (idxs steps).length ops.size && nodup (alNos steps) && okOrder ops [] steps && okStages ops none false steps &&
  okSlots ops steps steps && okRe ops steps steps && okSelf steps && okTwin steps steps

/-- No range over a function in it. -/
def noRange : ACode → Bool
  | .rangeFunc .. => false
  | .seq a b | .cond _ a b => noRange a && noRange b
  | .block _ a | .loop a | .scope a => noRange a
  | _ => true

def okC (n : Nat) : ACode → Code → Bool
  | .skip, .skip => true
  | .region d kept steps, .region _ ops d' => (d == d') && (bif d then okDraw P n ops kept steps else Nat.beq kept 0 && okPlain P n ops steps ops.toList)
  | .seq a b, .seq c d => okC n a c && okC n b d
  | .cond x a b, .cond y c d => okO x y && okC n a c && okC n b d
  | .block i a, .block j c => Nat.beq i j && okC n a c
  | .loop a, .loop c => okC n a c
  | .rangeFunc x ps a b, .rangeFunc y qs c d => okO x y && decide (ps = qs.toList) && ps.all (Nat.blt · n) && okC n a c && okC n b d && noRange a
  | .exit i, .exit j => Nat.beq i j
  | .ret, .ret => true
  | .scope a, .scope c => okC n a c
  | .label _, .label _ => true
  | _, _ => false

def okRes : List ARes → List ResultVar → Bool
  | [], [] => true
  | .tmp t :: l, .tmp u :: r => Nat.beq t u && okRes l r
  | .cell t s :: l, .cell u ty :: r => Nat.beq t u && okSz P ty s && okRes l r
  | _, _ => false
def okF (af : AFunc) (fn : Func) : Bool :=
  match fn.body with
  | some c => okC P fn.ntmps af.body c && okRes P af.results fn.results.toList && Nat.ble af.nparams fn.ntmps && decide (fn.name ≠ "runtime.NumGoroutine")
  | none => false

end Go.AM
