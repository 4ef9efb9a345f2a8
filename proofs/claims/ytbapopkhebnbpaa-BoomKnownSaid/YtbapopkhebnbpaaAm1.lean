/- A small deterministic machine for the programs of this seat: values, memory, operations, code. -/
import GoSem.Step
namespace Go.AM
noncomputable section

/-- A tree by numbers. -/
inductive T (α : Type) where
  | e
  | n (l : T α) (v : Option α) (r : T α)

namespace T
variable {α : Type}
def get (t : T α) : Nat → Option α :=
  T.rec (fun _ => none) (fun _ v _ gl gr k => bif Nat.beq k 0 then v else bif Nat.beq (k % 2) 1 then gl (k / 2) else gr (k / 2 - 1)) t
def left : T α → T α
  | e => e
  | n l _ _ => l
def right : T α → T α
  | e => e
  | n _ _ r => r
def val : T α → Option α
  | e => none
  | n _ v _ => v
def setF (f : Nat) : T α → Nat → Option α → T α :=
  Nat.rec (fun t _ _ => t) (fun _ g t k x =>
    bif Nat.beq k 0 then n t.left x t.right else bif Nat.beq (k % 2) 1 then n (g t.left (k / 2) x) t.val t.right else n t.left t.val (g t.right (k / 2 - 1) x)) f
def put (t : T α) (k : Nat) (x : Option α) : T α := setF (k + 1) t k x
end T

/-- What is known of a slice's capacity. -/
inductive CK where
  | exact | tail | opaq
  deriving DecidableEq

inductive AV where
  | bool (b : Bool)
  | int (k : IntKind) (n : Int)
  | str (s : List Nat)
  | ptr (a : Option (Nat × Nat))
  | slc (a : Option (Nat × Nat)) (len cap et : Nat) (ck : CK)
  | map (r : Option Nat)
  | fn (f : Nat) (first captured : List AV)
  | yld (l : Nat)
  | nilFn
  | agg (cs : List AV)
  | tup (vs : List AV)

def AV.cells : AV → List AV
  | .agg l => l
  | v => [v]
def AV.scalar : AV → Bool
  | .agg _ | .tup _ => false
  | _ => true
/-- No address in it. -/
def AV.plain : AV → Bool
  | .bool _ | .int _ _ | .str _ => true
  | _ => false
def AV.plainRes : AV → Bool
  | .tup l => l.all AV.plain
  | .agg l => l.all AV.plain
  | v => v.plain

mutual
def AV.beq : AV → AV → Bool
  | .bool a, .bool b => a == b
  | .int j a, .int k b => j == k && a == b
  | .str a, .str b => a == b
  | .ptr a, .ptr b => a == b
  | .slc a l c e k, .slc a' l' c' e' k' => a == a' && l == l' && c == c' && e == e' && k == k'
  | .map a, .map b => a == b
  | .fn f x y, .fn g z w => f == g && AV.beqs x z && AV.beqs y w
  | .yld a, .yld b => a == b
  | .nilFn, .nilFn => true
  | .agg a, .agg b => AV.beqs a b
  | .tup a, .tup b => AV.beqs a b
  | _, _ => false
def AV.beqs : List AV → List AV → Bool
  | [], [] => true
  | x :: a, y :: b => x.beq y && AV.beqs a b
  | _, _ => false
end

inductive AOpd where
  | tmp (t : Nat)
  | const (v : AV)
  | func (f : Nat)

/-- The kind of an element that is read: one cell, or so many. -/
abbrev Sz := Option Nat

inductive AOp where
  | mv (x : AOpd)
  | pick (c a b : AOpd)
  | new (zero : List AV)
  | box (x : AOpd)
  | build (zero : List AV) (parts : List (Nat × Nat × AOpd))
  | buildSlice (et n : Nat) (zero : List AV) (parts : List (Nat × Nat × AOpd))
  | load (s : Sz) (x : AOpd)
  | store (n : Nat) (a v : AOpd)
  | nilCheck (x : AOpd)
  | bin (op : BinOp) (x y : AOpd)
  | eqAgg (n : Nat) (neg : Bool) (x y : AOpd)
  | eqB (neg : Bool) (x y : AOpd)
  | eqNilS (neg : Bool) (x : AOpd)
  | eqNilP (neg : Bool) (x : AOpd)
  | not (x : AOpd)
  | neg (x : AOpd)
  | conv (k : IntKind) (x : AOpd)
  | strBytes (et : Nat) (x : AOpd)
  | strRunes (et : Nat) (x : AOpd)
  | sameBytes (x : AOpd)
  | mkFunc (f : Nat) (first captured : List AOpd)
  | mkMap
  | mkSlice (et bytes : Nat) (zero : List AV) (len cap : AOpd)
  | slice (et esz : Nat) (x : AOpd) (lo hi mx : Option AOpd)
  | sliceArr (n et esz : Nat) (x : AOpd) (lo hi mx : Option AOpd)
  | sliceStr (x : AOpd) (lo hi : Option AOpd)
  | fieldAddr (off : Nat) (x : AOpd)
  | field (off : Nat) (s : Sz) (x : AOpd)
  | idxAddrS (esz : Nat) (x i : AOpd)
  | idxAddrA (n esz : Nat) (x i : AOpd)
  | idxA (n esz : Nat) (s : Sz) (x i : AOpd)
  | idxStr (x i : AOpd)
  | lookup (kn : Nat) (zero : AV) (m k : AOpd) (ok : Bool)
  | mapUpdate (kn : Nat) (m k v : AOpd)
  | mapEntry (kn : Nat) (zero : AV) (m k : AOpd)
  | entryStore (m s v : AOpd)
  | extract (x : AOpd) (i : Nat)
  | call (f : AOpd) (args : List AOpd)
  | lenStr (x : AOpd)
  | lenSlc (x : AOpd)
  | lenMap (x : AOpd)
  | append (et esz bytes : Nat) (s x : AOpd)
  | copy (esz : Nat) (d s : AOpd)
  | clear (zero : List AV) (x : AOpd)
  | delete (kn : Nat) (m k : AOpd)
  | min (xs : List AOpd)
  | max (xs : List AOpd)

/-- What an operation needs of memory: 0 nothing, 1 it reads, 2 it makes, 3 it turns memory, or calls. -/
def cls : AOp → Nat
  | .mv _ | .pick .. | .build .. | .nilCheck _ | .bin .. | .eqAgg .. | .eqB .. | .eqNilS .. | .eqNilP .. | .not _ | .neg _ | .conv .. | .mkFunc .. | .slice .. | .sliceArr .. | .sliceStr ..
  | .fieldAddr .. | .field .. | .idxAddrS .. | .idxAddrA .. | .idxA .. | .idxStr .. | .extract .. | .lenStr _ | .lenSlc _ | .min _ | .max _ => 0
  | .load .. | .lookup .. | .lenMap _ => 1
  | .new _ | .box _ | .buildSlice .. | .mkSlice .. | .mkMap | .strBytes .. | .strRunes .. => 2
  | _ => 3

structure AOper where
  dst : Option Nat
  guard : Option (Nat × Bool)
  op : AOp

inductive Stp where
  /-- carried out -/
  | ex (i : Nat) (o : AOper)
  /-- read anew: it must come to the same -/
  | re (i : Nat) (o : AOper)
  /-- memory is made, under a number that was kept for it -/
  | al (i j : Nat) (o : AOper)

inductive ACode where
  | skip
  | region (draw : Bool) (kept : Nat) (steps : List Stp)
  | seq (a b : ACode)
  | cond (c : AOpd) (a b : ACode)
  | block (id : Nat) (b : ACode)
  | loop (b : ACode)
  | rangeFunc (f : AOpd) (params : List Nat) (assign body : ACode)
  | exit (id : Nat)
  | ret
  | scope (b : ACode)
  | label (l : Nat)

inductive AExit where
  | normal
  | exit (id : Nat)
  | ret

structure ALoop where
  busy : Bool
  done : Bool
  pending : AExit
  tmps : T AV
  params : List Nat
  assign : ACode
  body : ACode

inductive AObj where
  | cells (c : List AV) (ro : Bool)
  | map (es : List (AV × AV × Nat)) (clock : Nat)
  | loop (l : ALoop)

structure AS where
  heap : T AObj
  next : Nat
  floor : Nat

inductive ARes where
  | tmp (t : Nat)
  | cell (t : Nat) (s : Sz)

structure AFunc where
  nparams : Nat
  pure : Bool
  results : List ARes
  body : ACode

def lo : IntKind → Int
  | .i8 => -128 | .i16 => -32768 | .i32 => -2147483648 | .i64 => -9223372036854775808 | _ => 0
def hi : IntKind → Int
  | .i8 => 127 | .i16 => 32767 | .i32 => 2147483647 | .i64 => 9223372036854775807
  | .u8 => 255 | .u16 => 65535 | .u32 => 4294967295 | .u64 => 18446744073709551615
def wrapSlow (k : IntKind) (n : Int) : Int := bif decide (lo k ≤ n) && decide (n ≤ hi k) then n else k.wrap n
def wrapF (k : IntKind) (n : Int) : Int :=
  match n with
  | .ofNat m => bif Nat.ble m 127 then .ofNat m else wrapSlow k (.ofNat m)
  | .negSucc m => wrapSlow k (.negSucc m)
def kn : IntKind → Nat
  | .i8 => 0 | .i16 => 1 | .i32 => 2 | .i64 => 3 | .u8 => 4 | .u16 => 5 | .u32 => 6 | .u64 => 7
def kEq (a b : IntKind) : Bool := Nat.beq (kn a) (kn b)

def opd : AOpd → T AV → Option AV
  | .tmp t, tm => tm.get t
  | .const v, _ => some v
  | .func f, _ => some (.fn f [] [])
def opds (l : List AOpd) (tm : T AV) : Option (List AV) :=
  List.rec (some []) (fun x _ g => (opd x tm).bind fun v => g.bind fun vs => some (v :: vs)) l
/-- An operand that may be absent. -/
def opdO : Option AOpd → T AV → Option (Option AV)
  | none, _ => some none
  | some x, tm => (opd x tm).map some
def partsOf : List (Nat × Nat × AOpd) → T AV → Option (List (Nat × Nat × AV))
  | [], _ => some []
  | (o, n, x) :: r, tm => (opd x tm).bind fun v => (partsOf r tm).bind fun vs => some ((o, n, v) :: vs)

/-- n cells from o on. -/
def rd (c : List AV) (o n : Nat) : Option (List AV) :=
  bif Nat.ble (o + n) c.length then some ((c.drop o).take n) else none
def wr (c : List AV) (o : Nat) (vs : List AV) : List AV := c.take o ++ (vs ++ c.drop (o + vs.length))
def fillP (c : List AV) : List (Nat × Nat × AV) → Option (List AV)
  | [] => some c
  | (o, n, v) :: r => bif Nat.beq v.cells.length n && Nat.ble (o + n) c.length && v.cells.all AV.scalar then fillP (wr c o v.cells) r else none

def partV (s : Sz) (c : List AV) (off : Nat) : Option AV :=
  match s with
  | none => c[off]?
  | some n => (rd c off n).map .agg

namespace AS
def alloc (σ : AS) (o : AObj) : AS := { σ with heap := σ.heap.put σ.next (some o), next := σ.next + 1 }
def cellsOf (σ : AS) (b : Nat) : Option (List AV) :=
  match σ.heap.get b with
  | some (.cells c _) => some c
  | _ => none
def read1 (σ : AS) (b o : Nat) : Option AV := (σ.cellsOf b).bind fun c => c[o]?
def readN (σ : AS) (b o n : Nat) : Option (List AV) := (σ.cellsOf b).bind fun c => rd c o n
def write (σ : AS) (b o : Nat) (vs : List AV) : Option AS :=
  match σ.heap.get b with
  | some (.cells c false) =>
    bif Nat.ble σ.floor b && Nat.ble (o + vs.length) c.length && vs.all AV.scalar then some { σ with heap := σ.heap.put b (some (.cells (wr c o vs) false)) } else none
  | _ => none
end AS

def loadV (σ : AS) (s : Sz) (x : AV) : Option AV :=
  match x, s with
  | .ptr (some (b, o)), none => σ.read1 b o
  | .ptr (some (b, o)), some n => (σ.readN b o n).map .agg
  | _, _ => none

def intOp (op : BinOp) (k : IntKind) (a b : Int) : Option AV :=
  match op with
  | .add => some (.int k (wrapF k (a + b)))
  | .sub => some (.int k (wrapF k (a - b)))
  | .mul => some (.int k (wrapF k (a * b)))
  | .quo => bif decide (b = 0) then none else some (.int k (wrapF k (a.tdiv b)))
  | .rem => bif decide (b = 0) then none else some (.int k (a.tmod b))
  | .and => some (.int k (k.wrap (BitVec.ofInt k.bits a &&& BitVec.ofInt k.bits b).toNat))
  | .or => some (.int k (k.wrap (BitVec.ofInt k.bits a ||| BitVec.ofInt k.bits b).toNat))
  | .xor => some (.int k (k.wrap (BitVec.ofInt k.bits a ^^^ BitVec.ofInt k.bits b).toNat))
  | .eql => some (.bool (decide (a = b)))
  | .neq => some (.bool (!decide (a = b)))
  | .lss => some (.bool (decide (a < b)))
  | .leq => some (.bool (decide (a ≤ b)))
  | .gtr => some (.bool (decide (b < a)))
  | .geq => some (.bool (decide (b ≤ a)))
  | _ => none

def strLess : List Nat → List Nat → Bool
  | _, [] => false
  | [], _ :: _ => true
  | a :: x, b :: y => Nat.blt a b || (Nat.beq a b && strLess x y)
def strEq : List Nat → List Nat → Bool
  | [], [] => true
  | a :: x, b :: y => Nat.beq a b && strEq x y
  | _, _ => false
def strOp (op : BinOp) (a b : List Nat) : Option AV :=
  match op with
  | .add => bif Nat.ble (a.length + b.length) 1048576 then some (.str (a ++ b)) else none
  | .eql => some (.bool (strEq a b))
  | .neq => some (.bool (!strEq a b))
  | _ => none

def binV (op : BinOp) (x y : AV) : Option AV :=
  match x, y with
  | .int k a, .int k' b =>
    match op with
    | .shl => bif decide (b < 0) then none else some (.int k (k.wrap (a * 2 ^ (Nat.min b.toNat k.bits))))
    | .shr => bif decide (b < 0) then none else some (.int k (a.fdiv (2 ^ (Nat.min b.toNat k.bits))))
    | _ => bif kEq k k' then intOp op k a b else none
  | .str a, .str b => strOp op a b
  | _, _ => none

/-- Two lists of whole numbers. -/
def intsEq : List AV → List AV → Option Bool
  | [], [] => some true
  | .int k a :: x, .int k' b :: y => bif kEq k k' then (bif decide (a = b) then intsEq x y else some false) else none
  | _, _ => none
def allInt : List AV → Bool
  | [] => true
  | .int _ _ :: r => allInt r
  | _ => false
def sameKinds : List AV → List AV → Bool
  | [], [] => true
  | .int k _ :: x, .int k' _ :: y => kEq k k' && sameKinds x y
  | _, _ => false

def keyEq (x y : AV) : Option Bool :=
  match x, y with
  | .int k a, .int k' b => bif kEq k k' then some (decide (a = b)) else none
  | .agg a, .agg b => bif sameKinds a b then intsEq a b else none
  | _, _ => none

def findK (k : AV) : List (AV × AV × Nat) → Nat → Option (Option (Nat × AV × Nat))
  | [], _ => some none
  | (q, v, s) :: r, i =>
    match keyEq k q with
    | some true => some (some (i, v, s))
    | some false => findK k r (i + 1)
    | none => none
/-- A key of so many cells (0: one whole number). -/
def keyOK (kn : Nat) (k : AV) : Bool :=
  match k with
  | .int _ _ => Nat.beq kn 0
  | .agg l => Nat.beq l.length kn && !Nat.beq kn 0
  | _ => false
def findKk (kn : Nat) (k : AV) (es : List (AV × AV × Nat)) : Option (Option (Nat × AV × Nat)) := bif keyOK kn k then findK k es 0 else none
def findS (s : Int) : List (AV × AV × Nat) → Nat → Option Nat
  | [], _ => none
  | (_, _, b) :: r, i => bif decide ((b : Int) = s) then some i else findS s r (i + 1)

def asNat : AV → Option Nat
  | .int _ n => bif decide (0 ≤ n) then some n.toNat else none
  | _ => none

/-- The three bounds of a slice expression, out of those that are given. -/
def bounds3 (len cap : Nat) (lo hi mx : Option AV) : Option (Nat × Nat × Nat) :=
  (match mx with
   | some v => (asNat v).bind fun m => bif Nat.ble m cap then some m else none
   | none => some cap).bind fun m =>
  (match hi with
   | some v => (asNat v).bind fun h => bif Nat.ble h m then some h else none
   | none => match mx with | none => some len | some _ => none).bind fun h =>
  (match lo with
   | some v => (asNat v).bind fun l => bif Nat.ble l h then some l else none
   | none => some 0).bind fun l =>
  some (l, h, m)

def minV : AV → AV → Option AV
  | .int k x, .int k' y => bif kEq k k' then some (.int k (bif decide (y < x) then y else x)) else none
  | _, _ => none
def maxV : AV → AV → Option AV
  | .int k x, .int k' y => bif kEq k k' then some (.int k (bif decide (x < y) then y else x)) else none
  | _, _ => none
def foldV (f : AV → AV → Option AV) : AV → List AV → Option AV
  | v, [] => some v
  | v, x :: r => (f v x).bind fun w => foldV f w r

def sizedZeros (zero : List AV) : Nat → List AV
  | 0 => []
  | n + 1 => zero ++ sizedZeros zero n

/-- The new element cells of an append. -/
def srcCells (σ : AS) (esz : Nat) (x : AV) : Option (Nat × List AV) :=
  match x with
  | .slc none n _ _ _ => bif Nat.beq n 0 then some (0, []) else none
  | .slc (some (b, o)) n _ _ _ => (σ.readN b o (n * esz)).map fun c => (n, c)
  | .str s => bif Nat.beq esz 1 then some (s.length, s.map fun (c : Nat) => AV.int .u8 (Int.ofNat c)) else none
  | _ => none

def appendV (σ : AS) (et esz bytes : Nat) (s x : AV) : Option (AV × AS) :=
  match s with
  | .slc a len cap et' ck =>
    bif !(Nat.beq et et' || a.isNone) then none else
    (srcCells σ esz x).bind fun (n, new) =>
    bif !Nat.ble ((len + n) * bytes) 70368744177664 then none else
    bif Nat.ble (len + n) cap then
      match a with
      | none => some (.slc none (len + n) cap et ck, σ)
      | some (b, o) => bif Nat.beq n 0 then some (.slc a (len + n) cap et ck, σ) else (σ.write b (o + len * esz) new).map fun σ => (.slc (some (b, o)) (len + n) cap et ck, σ)
    else
    match ck with
    | .exact =>
      (match a with
       | none => bif Nat.beq len 0 then some [] else none
       | some (b, o) => σ.readN b o (len * esz)).bind fun old =>
      bif !(Nat.ble (cap * bytes) 70368744177664) then none else
      bif !(old.all AV.scalar && new.all AV.scalar) then none else
      some (.slc (some (σ.next, 0)) (len + n) (len + n) et .tail, σ.alloc (.cells (old ++ new) false))
    | .tail =>
      match a with
      | none => none
      | some (b, o) =>
        match σ.heap.get b with
        | some (.cells c false) =>
          bif !(Nat.ble σ.floor b && Nat.beq (o + cap * esz) c.length) then none else
          (rd c o (len * esz)).bind fun old =>
          bif !(old.all AV.scalar && new.all AV.scalar) then none else
          some (.slc (some (σ.next, 0)) (len + n) (len + n) et .tail,
            ({ σ with heap := σ.heap.put b none }).alloc (.cells (old ++ new) false))
        | _ => none
    | .opaq => none
  | _ => none

def sliceV (et' esz : Nat) (x : AV) (lo hi mx : Option AV) : Option AV :=
  match x with
  | .slc a len cap et ck =>
    (bounds3 len cap lo hi mx).bind fun (l, h, m) =>
    match mx, ck with
    | some _, _ => some (.slc (a.map fun (b, o) => (b, o + l * esz)) (h - l) (m - l) et .exact)
    | none, .exact => some (.slc (a.map fun (b, o) => (b, o + l * esz)) (h - l) (m - l) et .exact)
    | none, .tail => bif Nat.beq et et' then some (.slc (a.map fun (b, o) => (b, o + l * esz)) (h - l) (m - l) et .tail) else none
    | none, .opaq => bif Nat.beq l 0 then some (.slc a h cap et .opaq) else none
  | _ => none

/-- Bytes of text to letters. -/
def toBytes (s : List Nat) : ByteArray := ⟨(s.map UInt8.ofNat).toArray⟩
def decs (s : ByteArray) : Nat → Nat → List AV
  | 0, _ => []
  | n + 1, i => if i < s.size then .int .i32 (Int.ofNat (Utf8.decode s i).1) :: decs s n (i + (Utf8.decode s i).2) else []

def lookIn (kn : Nat) (σ : AS) (m k : AV) : Option (Option (Nat × AV × Nat)) :=
  match m with
  | .map none => bif keyOK kn k then some none else none
  | .map (some r) => match σ.heap.get r with | some (.map es _) => findKk kn k es | _ => none
  | _ => none
def lookOut (zero : AV) (ok : Bool) (r : Option (Nat × AV × Nat)) : AV :=
  match r with
  | some (_, v, _) => bif ok then .tup [v, .bool true] else v
  | none => bif ok then .tup [zero, .bool false] else zero

def op_mv (x : AOpd) (tm : T AV) (σ : AS) : Option (AV × AS) :=
  (opd x tm).map fun v => (v, σ)
def op_pick (c : AOpd) (a : AOpd) (b : AOpd) (tm : T AV) (σ : AS) : Option (AV × AS) :=
  (opd c tm).bind fun | .bool t => (bif t then opd a tm else opd b tm).map fun v => (v, σ) | _ => none
def op_new (zero : List AV) (tm : T AV) (σ : AS) : Option (AV × AS) :=
  some (.ptr (some (σ.next, 0)), σ.alloc (.cells zero false))
def op_box (x : AOpd) (tm : T AV) (σ : AS) : Option (AV × AS) :=
  (opd x tm).bind fun v => bif v.cells.all AV.scalar then some (.ptr (some (σ.next, 0)), σ.alloc (.cells v.cells false)) else none
def op_build (zero : List AV) (parts : List (Nat × Nat × AOpd)) (tm : T AV) (σ : AS) : Option (AV × AS) :=
  (partsOf parts tm).bind fun ps => (fillP zero ps).map fun c => (.agg c, σ)
def op_buildSlice (et : Nat) (n : Nat) (zero : List AV) (parts : List (Nat × Nat × AOpd)) (tm : T AV) (σ : AS) : Option (AV × AS) :=
    (partsOf parts tm).bind fun ps => (fillP zero ps).map fun c => (.slc (some (σ.next, 0)) n n et .exact, σ.alloc (.cells c false))
def op_load (s : Sz) (x : AOpd) (tm : T AV) (σ : AS) : Option (AV × AS) :=
  (opd x tm).bind fun a => (loadV σ s a).map fun v => (v, σ)
def op_store (n : Nat) (a : AOpd) (x : AOpd) (tm : T AV) (σ : AS) : Option (AV × AS) :=
  (opd a tm).bind fun a => (opd x tm).bind fun v =>
    match a with
    | .ptr (some (b, o)) => bif Nat.beq v.cells.length n then (σ.write b o v.cells).map fun σ => (.tup [], σ) else none
    | _ => none
def op_nilCheck (x : AOpd) (tm : T AV) (σ : AS) : Option (AV × AS) :=
  (opd x tm).bind fun | .ptr (some a) => some (.ptr (some a), σ) | .fn f a c => some (.fn f a c, σ) | .yld l => some (.yld l, σ) | _ => none
def op_bin (op : BinOp) (x : AOpd) (y : AOpd) (tm : T AV) (σ : AS) : Option (AV × AS) :=
  (opd x tm).bind fun a => (opd y tm).bind fun b => (binV op a b).map fun v => (v, σ)
def op_eqAgg (n : Nat) (neg : Bool) (x : AOpd) (y : AOpd) (tm : T AV) (σ : AS) : Option (AV × AS) :=
  (opd x tm).bind fun a => (opd y tm).bind fun b =>
    match a, b with
    | .agg a, .agg b => bif sameKinds a b && Nat.beq a.length n then (intsEq a b).map fun t => (.bool (xor neg t), σ) else none
    | _, _ => none
def op_eqB (neg : Bool) (x : AOpd) (y : AOpd) (tm : T AV) (σ : AS) : Option (AV × AS) := (opd x tm).bind fun a => (opd y tm).bind fun b =>
    match a, b with
    | .bool a, .bool b => some (.bool (xor neg (a == b)), σ)
    | _, _ => none
def op_eqNilS (neg : Bool) (x : AOpd) (tm : T AV) (σ : AS) : Option (AV × AS) := (opd x tm).bind fun a =>
    match a with
    | .slc a _ _ _ _ => some (.bool (xor neg a.isNone), σ)
    | _ => none
def op_eqNilP (neg : Bool) (x : AOpd) (tm : T AV) (σ : AS) : Option (AV × AS) := (opd x tm).bind fun a =>
    match a with
    | .ptr a => some (.bool (xor neg a.isNone), σ)
    | _ => none
def op_not (x : AOpd) (tm : T AV) (σ : AS) : Option (AV × AS) :=
  (opd x tm).bind fun | .bool b => some (.bool (!b), σ) | _ => none
def op_neg (x : AOpd) (tm : T AV) (σ : AS) : Option (AV × AS) :=
  (opd x tm).bind fun | .int k n => some (.int k (wrapF k (0 - n)), σ) | _ => none
def op_conv (k : IntKind) (x : AOpd) (tm : T AV) (σ : AS) : Option (AV × AS) :=
  (opd x tm).bind fun | .int _ n => some (.int k (wrapF k n), σ) | _ => none
def op_strBytes (et : Nat) (x : AOpd) (tm : T AV) (σ : AS) : Option (AV × AS) :=
  (opd x tm).bind fun
    | .str s => if s.length ≤ 1048576 then some (.slc (some (σ.next, 0)) s.length s.length et .opaq, σ.alloc (.cells (s.map fun (c : Nat) => AV.int .u8 (Int.ofNat c)) false)) else none
    | _ => none
def op_strRunes (et : Nat) (x : AOpd) (tm : T AV) (σ : AS) : Option (AV × AS) :=
  (opd x tm).bind fun
    | .str s => if s.length ≤ 1048576 then some (.slc (some (σ.next, 0)) (decs (toBytes s) s.length 0).length (decs (toBytes s) s.length 0).length et .opaq, σ.alloc (.cells (decs (toBytes s) s.length 0) false)) else none
    | _ => none
def op_sameBytes (x : AOpd) (tm : T AV) (σ : AS) : Option (AV × AS) :=
  (opd x tm).bind fun
    | .slc (some (b, o)) l c e k =>
      match σ.heap.get b with
      | some (.cells _ false) => bif Nat.ble σ.floor b && Nat.blt 0 l then some (.slc (some (b, o)) l c e k, σ) else none
      | _ => none
    | _ => none
def op_mkFunc (f : Nat) (first : List AOpd) (cap : List AOpd) (tm : T AV) (σ : AS) : Option (AV × AS) :=
  (opds first tm).bind fun a => (opds cap tm).map fun c => (.fn f a c, σ)
def op_mkMap  (tm : T AV) (σ : AS) : Option (AV × AS) :=
  some (.map (some σ.next), σ.alloc (.map [] 0))
def op_mkSlice (et : Nat) (bytes : Nat) (zero : List AV) (l : AOpd) (c : AOpd) (tm : T AV) (σ : AS) : Option (AV × AS) :=
  (opd l tm).bind fun l => (opd c tm).bind fun c => (asNat l).bind fun l => (asNat c).bind fun c =>
    bif Nat.ble l c && Nat.ble (c * bytes) 70368744177664 then
      some (.slc (some (σ.next, 0)) l c et .exact, σ.alloc (.cells (sizedZeros zero c) false))
    else none
def op_slice (et' : Nat) (esz : Nat) (x : AOpd) (lo : Option AOpd) (hi : Option AOpd) (mx : Option AOpd) (tm : T AV) (σ : AS) : Option (AV × AS) :=
  (opd x tm).bind fun x => (opdO lo tm).bind fun lo => (opdO hi tm).bind fun hi => (opdO mx tm).bind fun mx =>
    (sliceV et' esz x lo hi mx).map fun v => (v, σ)
def op_sliceArr (n : Nat) (et : Nat) (esz : Nat) (x : AOpd) (lo : Option AOpd) (hi : Option AOpd) (mx : Option AOpd) (tm : T AV) (σ : AS) : Option (AV × AS) :=
  (opd x tm).bind fun x => (opdO lo tm).bind fun lo => (opdO hi tm).bind fun hi => (opdO mx tm).bind fun mx =>
    match x with
    | .ptr (some (b, o)) => (bounds3 n n lo hi mx).map fun (l, h, m) => (.slc (some (b, o + l * esz)) (h - l) (m - l) et .exact, σ)
    | _ => none
def op_sliceStr (x : AOpd) (lo : Option AOpd) (hi : Option AOpd) (tm : T AV) (σ : AS) : Option (AV × AS) :=
  (opd x tm).bind fun x => (opdO lo tm).bind fun lo => (opdO hi tm).bind fun hi =>
    match x with
    | .str s => (bounds3 s.length s.length lo hi none).map fun (l, h, _) => (.str ((s.take h).drop l), σ)
    | _ => none
def op_fieldAddr (off : Nat) (x : AOpd) (tm : T AV) (σ : AS) : Option (AV × AS) :=
  (opd x tm).bind fun | .ptr (some (b, o)) => some (.ptr (some (b, o + off)), σ) | _ => none
def op_field (off : Nat) (s : Sz) (x : AOpd) (tm : T AV) (σ : AS) : Option (AV × AS) :=
  (opd x tm).bind fun
    | .agg c => (partV s c off).map fun v => (v, σ)
    | _ => none
def op_idxAddrS (esz : Nat) (x : AOpd) (i : AOpd) (tm : T AV) (σ : AS) : Option (AV × AS) :=
  (opd x tm).bind fun x => (opd i tm).bind fun i => (asNat i).bind fun i =>
    match x with
    | .slc (some (b, o)) len _ _ _ => bif Nat.blt i len then some (.ptr (some (b, o + i * esz)), σ) else none
    | _ => none
def op_idxAddrA (n : Nat) (esz : Nat) (x : AOpd) (i : AOpd) (tm : T AV) (σ : AS) : Option (AV × AS) :=
  (opd x tm).bind fun x => (opd i tm).bind fun i => (asNat i).bind fun i =>
    match x with
    | .ptr (some (b, o)) => bif Nat.blt i n then some (.ptr (some (b, o + i * esz)), σ) else none
    | _ => none
def op_idxA (n : Nat) (esz : Nat) (s : Sz) (x : AOpd) (i : AOpd) (tm : T AV) (σ : AS) : Option (AV × AS) :=
  (opd x tm).bind fun x => (opd i tm).bind fun i => (asNat i).bind fun i =>
    match x with
    | .agg c => bif Nat.blt i n then (partV s c (i * esz)).map fun v => (v, σ) else none
    | _ => none
def op_idxStr (x : AOpd) (i : AOpd) (tm : T AV) (σ : AS) : Option (AV × AS) :=
  (opd x tm).bind fun x => (opd i tm).bind fun i => (asNat i).bind fun i =>
    match x with
    | .str s => s[i]?.map fun (c : Nat) => (AV.int .u8 (c : Int), σ)
    | _ => none
def op_lookup (kn : Nat) (zero : AV) (m : AOpd) (k : AOpd) (ok : Bool) (tm : T AV) (σ : AS) : Option (AV × AS) :=
  (opd m tm).bind fun m => (opd k tm).bind fun k =>
    (lookIn kn σ m k).map fun r => (lookOut zero ok r, σ)
def op_mapUpdate (kn : Nat) (m : AOpd) (k : AOpd) (v : AOpd) (tm : T AV) (σ : AS) : Option (AV × AS) :=
  (opd m tm).bind fun m => (opd k tm).bind fun k => (opd v tm).bind fun v =>
    match m with
    | .map (some r) =>
      bif !Nat.ble σ.floor r then none else
      match σ.heap.get r with
      | some (.map es cl) => (findKk kn k es).map fun
        | some (i, _, s) => (.tup [], { σ with heap := σ.heap.put r (some (.map (es.set i (k, v, s)) cl)) })
        | none => (.tup [], { σ with heap := σ.heap.put r (some (.map (es ++ [(k, v, cl)]) (cl + 1))) })
      | _ => none
    | _ => none
def op_mapEntry (kn : Nat) (zero : AV) (m : AOpd) (k : AOpd) (tm : T AV) (σ : AS) : Option (AV × AS) :=
  (opd m tm).bind fun m => (opd k tm).bind fun k =>
    match m with
    | .map (some r) =>
      bif !Nat.ble σ.floor r then none else
      match σ.heap.get r with
      | some (.map es cl) => (findKk kn k es).map fun
        | some (i, v, s) => (.tup [v, .int .i64 s], { σ with heap := σ.heap.put r (some (.map (es.set i (k, v, s)) cl)) })
        | none => (.tup [zero, .int .i64 cl], { σ with heap := σ.heap.put r (some (.map (es ++ [(k, zero, cl)]) (cl + 1))) })
      | _ => none
    | _ => none
def op_entryStore (m : AOpd) (s : AOpd) (v : AOpd) (tm : T AV) (σ : AS) : Option (AV × AS) :=
  (opd m tm).bind fun m => (opd s tm).bind fun s => (opd v tm).bind fun v =>
    match m, s with
    | .map (some r), .int _ s =>
      bif !Nat.ble σ.floor r then none else
      match σ.heap.get r with
      | some (.map es cl) => (findS s es 0).bind fun i => es[i]?.map fun (k, _, b) => (.tup [], { σ with heap := σ.heap.put r (some (.map (es.set i (k, v, b)) cl)) })
      | _ => none
    | _, _ => none
def op_extract (x : AOpd) (i : Nat) (tm : T AV) (σ : AS) : Option (AV × AS) :=
  (opd x tm).bind fun | .tup l => l[i]?.map fun v => (v, σ) | _ => none
def op_call (_x0 : AOpd) (_x1 : List AOpd) (tm : T AV) (σ : AS) : Option (AV × AS) :=
  none
def op_lenStr (x : AOpd) (tm : T AV) (σ : AS) : Option (AV × AS) := (opd x tm).bind fun
    | .str s => some (.int .i64 s.length, σ)
    | _ => none
def op_lenSlc (x : AOpd) (tm : T AV) (σ : AS) : Option (AV × AS) := (opd x tm).bind fun
    | .slc _ n _ _ _ => some (.int .i64 n, σ)
    | _ => none
def op_lenMap (x : AOpd) (tm : T AV) (σ : AS) : Option (AV × AS) := (opd x tm).bind fun
    | .map none => some (.int .i64 0, σ)
    | .map (some r) => match σ.heap.get r with | some (.map es _) => some (.int .i64 es.length, σ) | _ => none
    | _ => none
def op_append (et : Nat) (esz : Nat) (bytes : Nat) (s : AOpd) (x : AOpd) (tm : T AV) (σ : AS) : Option (AV × AS) :=
  (opd s tm).bind fun s => (opd x tm).bind fun x => appendV σ et esz bytes s x
def op_copy (esz : Nat) (d : AOpd) (s : AOpd) (tm : T AV) (σ : AS) : Option (AV × AS) :=
  (opd d tm).bind fun d => (opd s tm).bind fun s =>
    match d with
    | .slc a dl _ _ _ =>
      match s with
      | .slc sa sl _ _ _ =>
        let n := Nat.min sl dl
        (match sa with | none => some [] | some (b, o) => σ.readN b o (n * esz)).bind fun cs =>
        bif Nat.beq n 0 then some (.int .i64 0, σ) else
        match a with
        | some (b, o) => (σ.write b o cs).map fun σ => (.int .i64 n, σ)
        | none => none
      | _ => none
    | _ => none
def op_clear (zero : List AV) (x : AOpd) (tm : T AV) (σ : AS) : Option (AV × AS) :=
  (opd x tm).bind fun
    | .slc (some (b, o)) n _ _ _ => bif Nat.beq n 0 then some (.tup [], σ) else (σ.write b o (sizedZeros zero n)).map fun σ => (.tup [], σ)
    | .slc none _ _ _ _ => some (.tup [], σ)
    | _ => none
def op_delete (kn : Nat) (m : AOpd) (k : AOpd) (tm : T AV) (σ : AS) : Option (AV × AS) :=
  (opd m tm).bind fun m => (opd k tm).bind fun k =>
    match m with
    | .map (some r) =>
      bif !Nat.ble σ.floor r then none else
      match σ.heap.get r with
      | some (.map es cl) => (findKk kn k es).map fun
        | some (i, _, _) => (.tup [], { σ with heap := σ.heap.put r (some (.map (es.eraseIdx i) cl)) })
        | none => (.tup [], σ)
      | _ => none
    | _ => none
def op_min (xs : List AOpd) (tm : T AV) (σ : AS) : Option (AV × AS) :=
  (opds xs tm).bind fun | v :: r => (foldV minV v r).map fun v => (v, σ) | [] => none
def op_max (xs : List AOpd) (tm : T AV) (σ : AS) : Option (AV × AS) :=
  (opds xs tm).bind fun | v :: r => (foldV maxV v r).map fun v => (v, σ) | [] => none

def opV (o : AOp) : T AV → AS → Option (AV × AS) :=
  match o with
  | .mv x0 => op_mv x0
  | .pick x0 x1 x2 => op_pick x0 x1 x2
  | .new x0 => op_new x0
  | .box x0 => op_box x0
  | .build x0 x1 => op_build x0 x1
  | .buildSlice x0 x1 x2 x3 => op_buildSlice x0 x1 x2 x3
  | .load x0 x1 => op_load x0 x1
  | .store x0 x1 x2 => op_store x0 x1 x2
  | .nilCheck x0 => op_nilCheck x0
  | .bin x0 x1 x2 => op_bin x0 x1 x2
  | .eqAgg x0 x1 x2 x3 => op_eqAgg x0 x1 x2 x3
  | .eqB x0 x1 x2 => op_eqB x0 x1 x2
  | .eqNilS x0 x1 => op_eqNilS x0 x1
  | .eqNilP x0 x1 => op_eqNilP x0 x1
  | .not x0 => op_not x0
  | .neg x0 => op_neg x0
  | .conv x0 x1 => op_conv x0 x1
  | .strBytes x0 x1 => op_strBytes x0 x1
  | .strRunes x0 x1 => op_strRunes x0 x1
  | .sameBytes x0 => op_sameBytes x0
  | .mkFunc x0 x1 x2 => op_mkFunc x0 x1 x2
  | .mkMap => op_mkMap
  | .mkSlice x0 x1 x2 x3 x4 => op_mkSlice x0 x1 x2 x3 x4
  | .slice x0 x1 x2 x3 x4 x5 => op_slice x0 x1 x2 x3 x4 x5
  | .sliceArr x0 x1 x2 x3 x4 x5 x6 => op_sliceArr x0 x1 x2 x3 x4 x5 x6
  | .sliceStr x0 x1 x2 => op_sliceStr x0 x1 x2
  | .fieldAddr x0 x1 => op_fieldAddr x0 x1
  | .field x0 x1 x2 => op_field x0 x1 x2
  | .idxAddrS x0 x1 x2 => op_idxAddrS x0 x1 x2
  | .idxAddrA x0 x1 x2 x3 => op_idxAddrA x0 x1 x2 x3
  | .idxA x0 x1 x2 x3 x4 => op_idxA x0 x1 x2 x3 x4
  | .idxStr x0 x1 => op_idxStr x0 x1
  | .lookup x0 x1 x2 x3 x4 => op_lookup x0 x1 x2 x3 x4
  | .mapUpdate x0 x1 x2 x3 => op_mapUpdate x0 x1 x2 x3
  | .mapEntry x0 x1 x2 x3 => op_mapEntry x0 x1 x2 x3
  | .entryStore x0 x1 x2 => op_entryStore x0 x1 x2
  | .extract x0 x1 => op_extract x0 x1
  | .call x0 x1 => op_call x0 x1
  | .lenStr x0 => op_lenStr x0
  | .lenSlc x0 => op_lenSlc x0
  | .lenMap x0 => op_lenMap x0
  | .append x0 x1 x2 x3 x4 => op_append x0 x1 x2 x3 x4
  | .copy x0 x1 x2 => op_copy x0 x1 x2
  | .clear x0 x1 => op_clear x0 x1
  | .delete x0 x1 x2 => op_delete x0 x1 x2
  | .min x0 => op_min x0
  | .max x0 => op_max x0

/-- The evaluator's own two jobs, for less fuel. -/
structure Fns where
  exec : ACode → T AV → AS → Option (AExit × T AV × AS)
  call : AV → List AV → AS → Option (AV × AS)

def wanted (g : Option (Nat × Bool)) (tm : T AV) : Bool :=
  match g with
  | none => true
  | some (s, w) => match tm.get s with | some (.bool b) => b == w | _ => false

def putD (tm : T AV) (d : Option Nat) (v : Option AV) : T AV :=
  match d with
  | some d => tm.put d v
  | none => tm

def opCall (f : AOpd) (args : List AOpd) (G : Fns) (tm : T AV) (σ : AS) : Option (AV × AS) :=
  (opd f tm).bind fun f => (opds args tm).bind fun l => G.call f l σ
def callParts : AOp → Option (AOpd × List AOpd)
  | .call f args => some (f, args)
  | _ => none
def opAny (G : Fns) (o : AOp) : T AV → AS → Option (AV × AS) :=
  match callParts o with
  | some (f, args) => opCall f args G
  | none => opV o

def exStp (o : AOper) (G : Fns) (_ : Nat) (k : T AV → AS → Option (T AV × AS)) (tm : T AV) (σ : AS) : Option (T AV × AS) :=
  bif wanted o.guard tm then (opAny G o.op tm σ).bind fun (v, σ) => k (putD tm o.dst (some v)) σ
  else k (putD tm o.dst none) σ
def reStp (o : AOper) (_ : Fns) (_ : Nat) (k : T AV → AS → Option (T AV × AS)) (tm : T AV) (σ : AS) : Option (T AV × AS) :=
  bif wanted o.guard tm then (opV o.op tm σ).bind fun (v, _) => (o.dst.bind fun d => tm.get d).bind fun w => bif v.beq w then k tm σ else none
  else k tm σ
def alStp (j : Nat) (o : AOper) (_ : Fns) (base : Nat) (k : T AV → AS → Option (T AV × AS)) (tm : T AV) (σ : AS) : Option (T AV × AS) :=
  bif wanted o.guard tm then (bif Nat.beq (cls o.op) 2 then opV o.op tm { σ with next := base + j } else none).bind fun (v, σ') => k (putD tm o.dst (some v)) { σ' with next := σ.next }
  else k (putD tm o.dst none) σ
def doStp (s : Stp) : Fns → Nat → (T AV → AS → Option (T AV × AS)) → T AV → AS → Option (T AV × AS) :=
  match s with
  | .ex _ o => exStp o
  | .re _ o => reStp o
  | .al _ j o => alStp j o
def runSteps (G : Fns) (base : Nat) (l : List Stp) : T AV → AS → Option (T AV × AS) :=
  List.rec (fun tm σ => some (tm, σ)) (fun s _ k => doStp s G base k) l

def setArgs : List AV → Nat → T AV → T AV
  | [], _, tm => tm
  | v :: r, i, tm => setArgs r (i + 1) (tm.put i (some v))
def setParams : List Nat → List AV → T AV → Option (T AV)
  | [], [], tm => some tm
  | p :: ps, v :: vs, tm => setParams ps vs (tm.put p (some v))
  | _, _, _ => none
def resOne (tm : T AV) (σ : AS) : ARes → Option AV
  | .tmp t => tm.get t
  | .cell t s => (tm.get t).bind fun x => loadV σ s x
def resAll (tm : T AV) (σ : AS) : List ARes → Option (List AV)
  | [] => some []
  | r :: l => (resOne tm σ r).bind fun v => (resAll tm σ l).bind fun vs => some (v :: vs)
def resV (tm : T AV) (σ : AS) (l : List ARes) : Option AV :=
  (resAll tm σ l).map fun | [v] => v | vs => .tup vs

def callF (G : Fns) (af : AFunc) (args : List AV) (σ : AS) : Option (AV × AS) :=
  bif !Nat.beq args.length af.nparams then none else
  bif af.pure then
    (G.exec af.body (setArgs args 0 .e) { σ with floor := σ.next }).bind fun (x, tm, σ') =>
    match x with
    | .exit _ => none
    | _ => (resV tm σ' af.results).bind fun v => bif v.plainRes then some (v, σ) else none
  else
    (G.exec af.body (setArgs args 0 .e) σ).bind fun (x, tm, σ') =>
    match x with
    | .exit _ => none
    | _ => (resV tm σ' af.results).map fun v => (v, σ')

def yieldEnd (l : Nat) (r : ALoop) (x : AExit) (σ : AS) : AV × AS :=
  match x with
  | .normal => (.bool true, { σ with heap := σ.heap.put l (some (.loop { r with busy := false, pending := .normal })) })
  | x => (.bool false, { σ with heap := σ.heap.put l (some (.loop { r with busy := false, done := true, pending := x })) })
def yieldBody (G : Fns) (l : Nat) (body : ACode) (tm : T AV) (σ : AS) : Option (AV × AS) :=
  match σ.heap.get l with
  | some (.loop r) =>
    bif r.busy || r.done then none else
    (G.exec body tm { σ with heap := σ.heap.put l (some (.loop { r with busy := true })) }).map fun (x, _, σ) => yieldEnd l r x σ
  | _ => none
def callYield (G : Fns) (l : Nat) (args : List AV) (σ : AS) : Option (AV × AS) :=
  bif !Nat.ble σ.floor l then none else
  match σ.heap.get l with
  | some (.loop r) =>
    bif r.busy || r.done then none else
    (setParams r.params args r.tmps).bind fun tm =>
    (G.exec r.assign tm σ).bind fun (x, tm, σ) =>
      match x with
      | .normal => yieldBody G l r.body tm σ
      | _ => none
  | _ => none

abbrev ExRes := Option (AExit × T AV × AS)
def exSkip (_ : Fns) (tm : T AV) (σ : AS) : ExRes := some (.normal, tm, σ)
def exRegion (kept : Nat) (steps : List Stp) (G : Fns) (tm : T AV) (σ : AS) : ExRes := (runSteps G σ.next steps tm { σ with next := σ.next + kept }).map fun (tm, σ) => (.normal, tm, σ)
def exSeq (a b : ACode) (G : Fns) (tm : T AV) (σ : AS) : ExRes :=
  (G.exec a tm σ).bind fun (x, tm, σ) =>
    match x with
    | .normal => G.exec b tm σ
    | x => some (x, tm, σ)
def exCond (c : AOpd) (a b : ACode) (G : Fns) (tm : T AV) (σ : AS) : ExRes :=
  (opd c tm).bind fun v =>
    match v with
    | .bool t => (bif t then G.exec a else G.exec b) tm σ
    | _ => none
def exBlock (id : Nat) (b : ACode) (G : Fns) (tm : T AV) (σ : AS) : ExRes :=
  (G.exec b tm σ).map fun (x, tm, σ) =>
    match x with
    | .exit j => bif Nat.beq j id then (.normal, tm, σ) else (.exit j, tm, σ)
    | x => (x, tm, σ)
def exLoop (b : ACode) (G : Fns) (tm : T AV) (σ : AS) : ExRes :=
  (G.exec b tm σ).bind fun (x, tm, σ) =>
    match x with
    | .normal => G.exec (.loop b) tm σ
    | x => some (x, tm, σ)
def exRange (f : AOpd) (params : List Nat) (assign body : ACode) (G : Fns) (tm : T AV) (σ : AS) : ExRes :=
  (opd f tm).bind fun f =>
    (G.call f [.yld σ.next] (σ.alloc (.loop { busy := false, done := false, pending := .normal, tmps := tm, params, assign, body }))).bind fun (_, σ') =>
    match σ'.heap.get σ.next with
    | some (.loop r) => bif r.busy then none else some (r.pending, tm, { σ' with heap := σ'.heap.put σ.next none })
    | _ => none
def exExit (id : Nat) (_ : Fns) (tm : T AV) (σ : AS) : ExRes := some (.exit id, tm, σ)
def exRet (_ : Fns) (tm : T AV) (σ : AS) : ExRes := some (.ret, tm, σ)
def exScope (b : ACode) (G : Fns) (tm : T AV) (σ : AS) : ExRes := G.exec b tm σ

def execC (c : ACode) : Fns → T AV → AS → ExRes :=
  match c with
  | .skip => exSkip
  | .region _ kept steps => exRegion kept steps
  | .seq a b => exSeq a b
  | .cond c a b => exCond c a b
  | .block id b => exBlock id b
  | .loop b => exLoop b
  | .rangeFunc f ps a b => exRange f ps a b
  | .exit id => exExit id
  | .ret => exRet
  | .scope b => exScope b
  | .label _ => exSkip

def callFn (ft : T AFunc) (f : Nat) (first cap : List AV) (G : Fns) (args : List AV) (σ : AS) : Option (AV × AS) :=
  (ft.get f).bind fun af => callF G af (first ++ args ++ cap) σ
def callNone (_ : Fns) (_ : List AV) (_ : AS) : Option (AV × AS) := none
def callV (ft : T AFunc) (f : AV) : Fns → List AV → AS → Option (AV × AS) :=
  match f with
  | .fn f first cap => callFn ft f first cap
  | .yld l => fun G args σ => callYield G l args σ
  | _ => callNone

def stepF (ft : T AFunc) (G : Fns) : Fns where
  exec c tm σ := execC c G tm σ
  call f args σ := callV ft f G args σ

def fns (ft : T AFunc) (n : Nat) : Fns :=
  Nat.rec ⟨fun _ _ _ => none, fun _ _ _ => none⟩ (fun _ g => stepF ft g) n

end
end Go.AM
