/- A small deterministic machine for the programs of this seat: values, memory, operations, code. -/
import GoSem.Step
import Derived.Laws.IdiomCopy
import Derived.Calls
import Derived.Laws.StructEq
set_option linter.all false
set_option linter.unusedVariables false
set_option linter.unusedSimpArgs false
set_option linter.unusedSectionVars false
namespace Go.AM
noncomputable section

/-- A tree by numbers. -/
inductive T (α : Type) where
  | e
  | n (l : T α) (v : Option α) (r : T α)

namespace T
variable {α : Type}
def get (t : T α) : Nat → Option α :=
  T.rec (fun _ => none) (fun _ v _ gl gr k => bif Nat.beq k 0 then v else bif Nat.beq (k % 2) 1 then gl (k / 2) else gr (k / 2 - 1)) t
def left : T α → T α
  | e => e
  | n l _ _ => l
def right : T α → T α
  | e => e
  | n _ _ r => r
def val : T α → Option α
  | e => none
  | n _ v _ => v
def setF (f : Nat) : T α → Nat → Option α → T α :=
  Nat.rec (fun t _ _ => t) (fun _ g t k x =>
    bif Nat.beq k 0 then n t.left x t.right else bif Nat.beq (k % 2) 1 then n (g t.left (k / 2) x) t.val t.right else n t.left t.val (g t.right (k / 2 - 1) x)) f
def put (t : T α) (k : Nat) (x : Option α) : T α := setF (k + 1) t k x
end T

/-- What is known of a slice's capacity. -/
inductive CK where
  | exact | tail | opaq
  deriving DecidableEq

inductive AV where
  | bool (b : Bool)
  | int (k : IntKind) (n : Int)
  | str (s : List Nat)
  | ptr (a : Option (Nat × Nat))
  | slc (a : Option (Nat × Nat)) (len cap et : Nat) (ck : CK)
  | map (r : Option Nat)
  | fn (f : Nat) (first captured : List AV)
  | yld (l : Nat)
  | nilFn
  | agg (cs : List AV)
  | tup (vs : List AV)

def AV.cells : AV → List AV
  | .agg l => l
  | v => [v]
def AV.scalar : AV → Bool
  | .agg _ | .tup _ => false
  | _ => true
/-- No address in it. -/
def AV.plain : AV → Bool
  | .bool _ | .int _ _ | .str _ => true
  | _ => false
def AV.plainRes : AV → Bool
  | .tup l => l.all AV.plain
  | .agg l => l.all AV.plain
  | v => v.plain

mutual
def AV.beq : AV → AV → Bool
  | .bool a, .bool b => a == b
  | .int j a, .int k b => j == k && a == b
  | .str a, .str b => a == b
  | .ptr a, .ptr b => a == b
  | .slc a l c e k, .slc a' l' c' e' k' => a == a' && l == l' && c == c' && e == e' && k == k'
  | .map a, .map b => a == b
  | .fn f x y, .fn g z w => f == g && AV.beqs x z && AV.beqs y w
  | .yld a, .yld b => a == b
  | .nilFn, .nilFn => true
  | .agg a, .agg b => AV.beqs a b
  | .tup a, .tup b => AV.beqs a b
  | _, _ => false
def AV.beqs : List AV → List AV → Bool
  | [], [] => true
  | x :: a, y :: b => x.beq y && AV.beqs a b
  | _, _ => false
end

inductive AOpd where
  | tmp (t : Nat)
  | const (v : AV)
  | func (f : Nat)

/-- The kind of an element that is read: one cell, or so many. -/
abbrev Sz := Option Nat

inductive AOp where
  | mv (x : AOpd)
  | pick (c a b : AOpd)
  | new (zero : List AV)
  | box (x : AOpd)
  | build (zero : List AV) (parts : List (Nat × Nat × AOpd))
  | buildSlice (et n : Nat) (zero : List AV) (parts : List (Nat × Nat × AOpd))
  | load (s : Sz) (x : AOpd)
  | store (n : Nat) (a v : AOpd)
  | nilCheck (x : AOpd)
  | bin (op : BinOp) (x y : AOpd)
  | eqAgg (n : Nat) (neg : Bool) (x y : AOpd)
  | eqB (neg : Bool) (x y : AOpd)
  | eqNilS (neg : Bool) (x : AOpd)
  | eqNilP (neg : Bool) (x : AOpd)
  | not (x : AOpd)
  | neg (x : AOpd)
  | conv (k : IntKind) (x : AOpd)
  | strBytes (et : Nat) (x : AOpd)
  | strRunes (et : Nat) (x : AOpd)
  | sameBytes (x : AOpd)
  | mkFunc (f : Nat) (first captured : List AOpd)
  | mkMap
  | mkSlice (et bytes : Nat) (zero : List AV) (len cap : AOpd)
  | slice (et esz : Nat) (x : AOpd) (lo hi mx : Option AOpd)
  | sliceArr (n et esz : Nat) (x : AOpd) (lo hi mx : Option AOpd)
  | sliceStr (x : AOpd) (lo hi : Option AOpd)
  | fieldAddr (off : Nat) (x : AOpd)
  | field (off : Nat) (s : Sz) (x : AOpd)
  | idxAddrS (esz : Nat) (x i : AOpd)
  | idxAddrA (n esz : Nat) (x i : AOpd)
  | idxA (n esz : Nat) (s : Sz) (x i : AOpd)
  | idxStr (x i : AOpd)
  | lookup (kn : Nat) (zero : AV) (m k : AOpd) (ok : Bool)
  | mapUpdate (kn : Nat) (m k v : AOpd)
  | mapEntry (kn : Nat) (zero : AV) (m k : AOpd)
  | entryStore (m s v : AOpd)
  | extract (x : AOpd) (i : Nat)
  | call (f : AOpd) (args : List AOpd)
  | lenStr (x : AOpd)
  | lenSlc (x : AOpd)
  | lenMap (x : AOpd)
  | append (et esz bytes : Nat) (s x : AOpd)
  | copy (esz : Nat) (d s : AOpd)
  | clear (zero : List AV) (x : AOpd)
  | delete (kn : Nat) (m k : AOpd)
  | min (xs : List AOpd)
  | max (xs : List AOpd)

/-- What an operation needs of memory: 0 nothing, 1 it reads, 2 it makes, 3 it turns memory, or calls. -/
def cls : AOp → Nat
  | .mv _ | .pick .. | .build .. | .nilCheck _ | .bin .. | .eqAgg .. | .eqB .. | .eqNilS .. | .eqNilP .. | .not _ | .neg _ | .conv .. | .mkFunc .. | .slice .. | .sliceArr .. | .sliceStr ..
  | .fieldAddr .. | .field .. | .idxAddrS .. | .idxAddrA .. | .idxA .. | .idxStr .. | .extract .. | .lenStr _ | .lenSlc _ | .min _ | .max _ => 0
  | .load .. | .lookup .. | .lenMap _ => 1
  | .new _ | .box _ | .buildSlice .. | .mkSlice .. | .mkMap | .strBytes .. | .strRunes .. => 2
  | _ => 3

structure AOper where
  dst : Option Nat
  guard : Option (Nat × Bool)
  op : AOp

inductive Stp where
  /-- carried out -/
  | ex (i : Nat) (o : AOper)
  /-- read anew: it must come to the same -/
  | re (i : Nat) (o : AOper)
  /-- memory is made, under a number that was kept for it -/
  | al (i j : Nat) (o : AOper)

inductive ACode where
  | skip
  | region (draw : Bool) (kept : Nat) (steps : List Stp)
  | seq (a b : ACode)
  | cond (c : AOpd) (a b : ACode)
  | block (id : Nat) (b : ACode)
  | loop (b : ACode)
  | rangeFunc (f : AOpd) (params : List Nat) (assign body : ACode)
  | exit (id : Nat)
  | ret
  | scope (b : ACode)
  | label (l : Nat)

inductive AExit where
  | normal
  | exit (id : Nat)
  | ret

structure ALoop where
  busy : Bool
  done : Bool
  pending : AExit
  tmps : T AV
  params : List Nat
  assign : ACode
  body : ACode

inductive AObj where
  | cells (c : List AV) (ro : Bool)
  | map (es : List (AV × AV × Nat)) (clock : Nat)
  | loop (l : ALoop)

structure AS where
  heap : T AObj
  next : Nat
  floor : Nat

inductive ARes where
  | tmp (t : Nat)
  | cell (t : Nat) (s : Sz)

structure AFunc where
  nparams : Nat
  pure : Bool
  results : List ARes
  body : ACode

def lo : IntKind → Int
  | .i8 => -128 | .i16 => -32768 | .i32 => -2147483648 | .i64 => -9223372036854775808 | _ => 0
def hi : IntKind → Int
  | .i8 => 127 | .i16 => 32767 | .i32 => 2147483647 | .i64 => 9223372036854775807
  | .u8 => 255 | .u16 => 65535 | .u32 => 4294967295 | .u64 => 18446744073709551615
def wrapSlow (k : IntKind) (n : Int) : Int := bif decide (lo k ≤ n) && decide (n ≤ hi k) then n else k.wrap n
def wrapF (k : IntKind) (n : Int) : Int :=
  match n with
  | .ofNat m => bif Nat.ble m 127 then .ofNat m else wrapSlow k (.ofNat m)
  | .negSucc m => wrapSlow k (.negSucc m)
def kn : IntKind → Nat
  | .i8 => 0 | .i16 => 1 | .i32 => 2 | .i64 => 3 | .u8 => 4 | .u16 => 5 | .u32 => 6 | .u64 => 7
def kEq (a b : IntKind) : Bool := Nat.beq (kn a) (kn b)

def opd : AOpd → T AV → Option AV
  | .tmp t, tm => tm.get t
  | .const v, _ => some v
  | .func f, _ => some (.fn f [] [])
def opds (l : List AOpd) (tm : T AV) : Option (List AV) :=
  List.rec (some []) (fun x _ g => (opd x tm).bind fun v => g.bind fun vs => some (v :: vs)) l
/-- An operand that may be absent. -/
def opdO : Option AOpd → T AV → Option (Option AV)
  | none, _ => some none
  | some x, tm => (opd x tm).map some
def partsOf : List (Nat × Nat × AOpd) → T AV → Option (List (Nat × Nat × AV))
  | [], _ => some []
  | (o, n, x) :: r, tm => (opd x tm).bind fun v => (partsOf r tm).bind fun vs => some ((o, n, v) :: vs)

/-- n cells from o on. -/
def rd (c : List AV) (o n : Nat) : Option (List AV) :=
  bif Nat.ble (o + n) c.length then some ((c.drop o).take n) else none
def wr (c : List AV) (o : Nat) (vs : List AV) : List AV := c.take o ++ (vs ++ c.drop (o + vs.length))
def fillP (c : List AV) : List (Nat × Nat × AV) → Option (List AV)
  | [] => some c
  | (o, n, v) :: r => bif Nat.beq v.cells.length n && Nat.ble (o + n) c.length && v.cells.all AV.scalar then fillP (wr c o v.cells) r else none

def partV (s : Sz) (c : List AV) (off : Nat) : Option AV :=
  match s with
  | none => c[off]?
  | some n => (rd c off n).map .agg

namespace AS
def alloc (σ : AS) (o : AObj) : AS := { σ with heap := σ.heap.put σ.next (some o), next := σ.next + 1 }
def cellsOf (σ : AS) (b : Nat) : Option (List AV) :=
  match σ.heap.get b with
  | some (.cells c _) => some c
  | _ => none
def read1 (σ : AS) (b o : Nat) : Option AV := (σ.cellsOf b).bind fun c => c[o]?
def readN (σ : AS) (b o n : Nat) : Option (List AV) := (σ.cellsOf b).bind fun c => rd c o n
def write (σ : AS) (b o : Nat) (vs : List AV) : Option AS :=
  match σ.heap.get b with
  | some (.cells c false) =>
    bif Nat.ble σ.floor b && Nat.ble (o + vs.length) c.length && vs.all AV.scalar then some { σ with heap := σ.heap.put b (some (.cells (wr c o vs) false)) } else none
  | _ => none
end AS

def loadV (σ : AS) (s : Sz) (x : AV) : Option AV :=
  match x, s with
  | .ptr (some (b, o)), none => σ.read1 b o
  | .ptr (some (b, o)), some n => (σ.readN b o n).map .agg
  | _, _ => none

def intOp (op : BinOp) (k : IntKind) (a b : Int) : Option AV :=
  match op with
  | .add => some (.int k (wrapF k (a + b)))
  | .sub => some (.int k (wrapF k (a - b)))
  | .mul => some (.int k (wrapF k (a * b)))
  | .quo => bif decide (b = 0) then none else some (.int k (wrapF k (a.tdiv b)))
  | .rem => bif decide (b = 0) then none else some (.int k (a.tmod b))
  | .and => some (.int k (k.wrap (BitVec.ofInt k.bits a &&& BitVec.ofInt k.bits b).toNat))
  | .or => some (.int k (k.wrap (BitVec.ofInt k.bits a ||| BitVec.ofInt k.bits b).toNat))
  | .xor => some (.int k (k.wrap (BitVec.ofInt k.bits a ^^^ BitVec.ofInt k.bits b).toNat))
  | .eql => some (.bool (decide (a = b)))
  | .neq => some (.bool (!decide (a = b)))
  | .lss => some (.bool (decide (a < b)))
  | .leq => some (.bool (decide (a ≤ b)))
  | .gtr => some (.bool (decide (b < a)))
  | .geq => some (.bool (decide (b ≤ a)))
  | _ => none

def strLess : List Nat → List Nat → Bool
  | _, [] => false
  | [], _ :: _ => true
  | a :: x, b :: y => Nat.blt a b || (Nat.beq a b && strLess x y)
def strEq : List Nat → List Nat → Bool
  | [], [] => true
  | a :: x, b :: y => Nat.beq a b && strEq x y
  | _, _ => false
def strOp (op : BinOp) (a b : List Nat) : Option AV :=
  match op with
  | .add => bif Nat.ble (a.length + b.length) 1048576 then some (.str (a ++ b)) else none
  | .eql => some (.bool (strEq a b))
  | .neq => some (.bool (!strEq a b))
  | _ => none

def binV (op : BinOp) (x y : AV) : Option AV :=
  match x, y with
  | .int k a, .int k' b =>
    match op with
    | .shl => bif decide (b < 0) then none else some (.int k (k.wrap (a * 2 ^ (Nat.min b.toNat k.bits))))
    | .shr => bif decide (b < 0) then none else some (.int k (a.fdiv (2 ^ (Nat.min b.toNat k.bits))))
    | _ => bif kEq k k' then intOp op k a b else none
  | .str a, .str b => strOp op a b
  | _, _ => none

/-- Two lists of whole numbers. -/
def intsEq : List AV → List AV → Option Bool
  | [], [] => some true
  | .int k a :: x, .int k' b :: y => bif kEq k k' then (bif decide (a = b) then intsEq x y else some false) else none
  | _, _ => none
def allInt : List AV → Bool
  | [] => true
  | .int _ _ :: r => allInt r
  | _ => false
def sameKinds : List AV → List AV → Bool
  | [], [] => true
  | .int k _ :: x, .int k' _ :: y => kEq k k' && sameKinds x y
  | _, _ => false

def keyEq (x y : AV) : Option Bool :=
  match x, y with
  | .int k a, .int k' b => bif kEq k k' then some (decide (a = b)) else none
  | .agg a, .agg b => bif sameKinds a b then intsEq a b else none
  | _, _ => none

def findK (k : AV) : List (AV × AV × Nat) → Nat → Option (Option (Nat × AV × Nat))
  | [], _ => some none
  | (q, v, s) :: r, i =>
    match keyEq k q with
    | some true => some (some (i, v, s))
    | some false => findK k r (i + 1)
    | none => none
/-- A key of so many cells (0: one whole number). -/
def keyOK (kn : Nat) (k : AV) : Bool :=
  match k with
  | .int _ _ => Nat.beq kn 0
  | .agg l => Nat.beq l.length kn && !Nat.beq kn 0
  | _ => false
def findKk (kn : Nat) (k : AV) (es : List (AV × AV × Nat)) : Option (Option (Nat × AV × Nat)) := bif keyOK kn k then findK k es 0 else none
def findS (s : Int) : List (AV × AV × Nat) → Nat → Option Nat
  | [], _ => none
  | (_, _, b) :: r, i => bif decide ((b : Int) = s) then some i else findS s r (i + 1)

def asNat : AV → Option Nat
  | .int _ n => bif decide (0 ≤ n) then some n.toNat else none
  | _ => none

/-- The three bounds of a slice expression, out of those that are given. -/
def bounds3 (len cap : Nat) (lo hi mx : Option AV) : Option (Nat × Nat × Nat) :=
  (match mx with
   | some v => (asNat v).bind fun m => bif Nat.ble m cap then some m else none
   | none => some cap).bind fun m =>
  (match hi with
   | some v => (asNat v).bind fun h => bif Nat.ble h m then some h else none
   | none => match mx with | none => some len | some _ => none).bind fun h =>
  (match lo with
   | some v => (asNat v).bind fun l => bif Nat.ble l h then some l else none
   | none => some 0).bind fun l =>
  some (l, h, m)

def minV : AV → AV → Option AV
  | .int k x, .int k' y => bif kEq k k' then some (.int k (bif decide (y < x) then y else x)) else none
  | _, _ => none
def maxV : AV → AV → Option AV
  | .int k x, .int k' y => bif kEq k k' then some (.int k (bif decide (x < y) then y else x)) else none
  | _, _ => none
def foldV (f : AV → AV → Option AV) : AV → List AV → Option AV
  | v, [] => some v
  | v, x :: r => (f v x).bind fun w => foldV f w r

def sizedZeros (zero : List AV) : Nat → List AV
  | 0 => []
  | n + 1 => zero ++ sizedZeros zero n

/-- The new element cells of an append. -/
def srcCells (σ : AS) (esz : Nat) (x : AV) : Option (Nat × List AV) :=
  match x with
  | .slc none n _ _ _ => bif Nat.beq n 0 then some (0, []) else none
  | .slc (some (b, o)) n _ _ _ => (σ.readN b o (n * esz)).map fun c => (n, c)
  | .str s => bif Nat.beq esz 1 then some (s.length, s.map fun (c : Nat) => AV.int .u8 (Int.ofNat c)) else none
  | _ => none

def appendV (σ : AS) (et esz bytes : Nat) (s x : AV) : Option (AV × AS) :=
  match s with
  | .slc a len cap et' ck =>
    bif !(Nat.beq et et' || a.isNone) then none else
    (srcCells σ esz x).bind fun (n, new) =>
    bif !Nat.ble ((len + n) * bytes) 70368744177664 then none else
    bif Nat.ble (len + n) cap then
      match a with
      | none => some (.slc none (len + n) cap et ck, σ)
      | some (b, o) => bif Nat.beq n 0 then some (.slc a (len + n) cap et ck, σ) else (σ.write b (o + len * esz) new).map fun σ => (.slc (some (b, o)) (len + n) cap et ck, σ)
    else
    match ck with
    | .exact =>
      (match a with
       | none => bif Nat.beq len 0 then some [] else none
       | some (b, o) => σ.readN b o (len * esz)).bind fun old =>
      bif !(Nat.ble (cap * bytes) 70368744177664) then none else
      bif !(old.all AV.scalar && new.all AV.scalar) then none else
      some (.slc (some (σ.next, 0)) (len + n) (len + n) et .tail, σ.alloc (.cells (old ++ new) false))
    | .tail =>
      match a with
      | none => none
      | some (b, o) =>
        match σ.heap.get b with
        | some (.cells c false) =>
          bif !(Nat.ble σ.floor b && Nat.beq (o + cap * esz) c.length) then none else
          (rd c o (len * esz)).bind fun old =>
          bif !(old.all AV.scalar && new.all AV.scalar) then none else
          some (.slc (some (σ.next, 0)) (len + n) (len + n) et .tail,
            ({ σ with heap := σ.heap.put b none }).alloc (.cells (old ++ new) false))
        | _ => none
    | .opaq => none
  | _ => none

def sliceV (et' esz : Nat) (x : AV) (lo hi mx : Option AV) : Option AV :=
  match x with
  | .slc a len cap et ck =>
    (bounds3 len cap lo hi mx).bind fun (l, h, m) =>
    match mx, ck with
    | some _, _ => some (.slc (a.map fun (b, o) => (b, o + l * esz)) (h - l) (m - l) et .exact)
    | none, .exact => some (.slc (a.map fun (b, o) => (b, o + l * esz)) (h - l) (m - l) et .exact)
    | none, .tail => bif Nat.beq et et' then some (.slc (a.map fun (b, o) => (b, o + l * esz)) (h - l) (m - l) et .tail) else none
    | none, .opaq => bif Nat.beq l 0 then some (.slc a h cap et .opaq) else none
  | _ => none

/-- Bytes of text to letters. -/
def toBytes (s : List Nat) : ByteArray := ⟨(s.map UInt8.ofNat).toArray⟩
def decs (s : ByteArray) : Nat → Nat → List AV
  | 0, _ => []
  | n + 1, i => if i < s.size then .int .i32 (Int.ofNat (Utf8.decode s i).1) :: decs s n (i + (Utf8.decode s i).2) else []

def lookIn (kn : Nat) (σ : AS) (m k : AV) : Option (Option (Nat × AV × Nat)) :=
  match m with
  | .map none => bif keyOK kn k then some none else none
  | .map (some r) => match σ.heap.get r with | some (.map es _) => findKk kn k es | _ => none
  | _ => none
def lookOut (zero : AV) (ok : Bool) (r : Option (Nat × AV × Nat)) : AV :=
  match r with
  | some (_, v, _) => bif ok then .tup [v, .bool true] else v
  | none => bif ok then .tup [zero, .bool false] else zero

def op_mv (x : AOpd) (tm : T AV) (σ : AS) : Option (AV × AS) :=
  (opd x tm).map fun v => (v, σ)
def op_pick (c : AOpd) (a : AOpd) (b : AOpd) (tm : T AV) (σ : AS) : Option (AV × AS) :=
  (opd c tm).bind fun | .bool t => (bif t then opd a tm else opd b tm).map fun v => (v, σ) | _ => none
def op_new (zero : List AV) (tm : T AV) (σ : AS) : Option (AV × AS) :=
  some (.ptr (some (σ.next, 0)), σ.alloc (.cells zero false))
def op_box (x : AOpd) (tm : T AV) (σ : AS) : Option (AV × AS) :=
  (opd x tm).bind fun v => bif v.cells.all AV.scalar then some (.ptr (some (σ.next, 0)), σ.alloc (.cells v.cells false)) else none
def op_build (zero : List AV) (parts : List (Nat × Nat × AOpd)) (tm : T AV) (σ : AS) : Option (AV × AS) :=
  (partsOf parts tm).bind fun ps => (fillP zero ps).map fun c => (.agg c, σ)
def op_buildSlice (et : Nat) (n : Nat) (zero : List AV) (parts : List (Nat × Nat × AOpd)) (tm : T AV) (σ : AS) : Option (AV × AS) :=
    (partsOf parts tm).bind fun ps => (fillP zero ps).map fun c => (.slc (some (σ.next, 0)) n n et .exact, σ.alloc (.cells c false))
def op_load (s : Sz) (x : AOpd) (tm : T AV) (σ : AS) : Option (AV × AS) :=
  (opd x tm).bind fun a => (loadV σ s a).map fun v => (v, σ)
def op_store (n : Nat) (a : AOpd) (x : AOpd) (tm : T AV) (σ : AS) : Option (AV × AS) :=
  (opd a tm).bind fun a => (opd x tm).bind fun v =>
    match a with
    | .ptr (some (b, o)) => bif Nat.beq v.cells.length n then (σ.write b o v.cells).map fun σ => (.tup [], σ) else none
    | _ => none
def op_nilCheck (x : AOpd) (tm : T AV) (σ : AS) : Option (AV × AS) :=
  (opd x tm).bind fun | .ptr (some a) => some (.ptr (some a), σ) | .fn f a c => some (.fn f a c, σ) | .yld l => some (.yld l, σ) | _ => none
def op_bin (op : BinOp) (x : AOpd) (y : AOpd) (tm : T AV) (σ : AS) : Option (AV × AS) :=
  (opd x tm).bind fun a => (opd y tm).bind fun b => (binV op a b).map fun v => (v, σ)
def op_eqAgg (n : Nat) (neg : Bool) (x : AOpd) (y : AOpd) (tm : T AV) (σ : AS) : Option (AV × AS) :=
  (opd x tm).bind fun a => (opd y tm).bind fun b =>
    match a, b with
    | .agg a, .agg b => bif sameKinds a b && Nat.beq a.length n then (intsEq a b).map fun t => (.bool (xor neg t), σ) else none
    | _, _ => none
def op_eqB (neg : Bool) (x : AOpd) (y : AOpd) (tm : T AV) (σ : AS) : Option (AV × AS) := (opd x tm).bind fun a => (opd y tm).bind fun b =>
    match a, b with
    | .bool a, .bool b => some (.bool (xor neg (a == b)), σ)
    | _, _ => none
def op_eqNilS (neg : Bool) (x : AOpd) (tm : T AV) (σ : AS) : Option (AV × AS) := (opd x tm).bind fun a =>
    match a with
    | .slc a _ _ _ _ => some (.bool (xor neg a.isNone), σ)
    | _ => none
def op_eqNilP (neg : Bool) (x : AOpd) (tm : T AV) (σ : AS) : Option (AV × AS) := (opd x tm).bind fun a =>
    match a with
    | .ptr a => some (.bool (xor neg a.isNone), σ)
    | _ => none
def op_not (x : AOpd) (tm : T AV) (σ : AS) : Option (AV × AS) :=
  (opd x tm).bind fun | .bool b => some (.bool (!b), σ) | _ => none
def op_neg (x : AOpd) (tm : T AV) (σ : AS) : Option (AV × AS) :=
  (opd x tm).bind fun | .int k n => some (.int k (wrapF k (0 - n)), σ) | _ => none
def op_conv (k : IntKind) (x : AOpd) (tm : T AV) (σ : AS) : Option (AV × AS) :=
  (opd x tm).bind fun | .int _ n => some (.int k (wrapF k n), σ) | _ => none
def op_strBytes (et : Nat) (x : AOpd) (tm : T AV) (σ : AS) : Option (AV × AS) :=
  (opd x tm).bind fun
    | .str s => if s.length ≤ 1048576 then some (.slc (some (σ.next, 0)) s.length s.length et .opaq, σ.alloc (.cells (s.map fun (c : Nat) => AV.int .u8 (Int.ofNat c)) false)) else none
    | _ => none
def op_strRunes (et : Nat) (x : AOpd) (tm : T AV) (σ : AS) : Option (AV × AS) :=
  (opd x tm).bind fun
    | .str s => if s.length ≤ 1048576 then some (.slc (some (σ.next, 0)) (decs (toBytes s) s.length 0).length (decs (toBytes s) s.length 0).length et .opaq, σ.alloc (.cells (decs (toBytes s) s.length 0) false)) else none
    | _ => none
def op_sameBytes (x : AOpd) (tm : T AV) (σ : AS) : Option (AV × AS) :=
  (opd x tm).bind fun
    | .slc (some (b, o)) l c e k =>
      match σ.heap.get b with
      | some (.cells _ false) => bif Nat.ble σ.floor b && Nat.blt 0 l then some (.slc (some (b, o)) l c e k, σ) else none
      | _ => none
    | _ => none
def op_mkFunc (f : Nat) (first : List AOpd) (cap : List AOpd) (tm : T AV) (σ : AS) : Option (AV × AS) :=
  (opds first tm).bind fun a => (opds cap tm).map fun c => (.fn f a c, σ)
def op_mkMap  (tm : T AV) (σ : AS) : Option (AV × AS) :=
  some (.map (some σ.next), σ.alloc (.map [] 0))
def op_mkSlice (et : Nat) (bytes : Nat) (zero : List AV) (l : AOpd) (c : AOpd) (tm : T AV) (σ : AS) : Option (AV × AS) :=
  (opd l tm).bind fun l => (opd c tm).bind fun c => (asNat l).bind fun l => (asNat c).bind fun c =>
    bif Nat.ble l c && Nat.ble (c * bytes) 70368744177664 then
      some (.slc (some (σ.next, 0)) l c et .exact, σ.alloc (.cells (sizedZeros zero c) false))
    else none
def op_slice (et' : Nat) (esz : Nat) (x : AOpd) (lo : Option AOpd) (hi : Option AOpd) (mx : Option AOpd) (tm : T AV) (σ : AS) : Option (AV × AS) :=
  (opd x tm).bind fun x => (opdO lo tm).bind fun lo => (opdO hi tm).bind fun hi => (opdO mx tm).bind fun mx =>
    (sliceV et' esz x lo hi mx).map fun v => (v, σ)
def op_sliceArr (n : Nat) (et : Nat) (esz : Nat) (x : AOpd) (lo : Option AOpd) (hi : Option AOpd) (mx : Option AOpd) (tm : T AV) (σ : AS) : Option (AV × AS) :=
  (opd x tm).bind fun x => (opdO lo tm).bind fun lo => (opdO hi tm).bind fun hi => (opdO mx tm).bind fun mx =>
    match x with
    | .ptr (some (b, o)) => (bounds3 n n lo hi mx).map fun (l, h, m) => (.slc (some (b, o + l * esz)) (h - l) (m - l) et .exact, σ)
    | _ => none
def op_sliceStr (x : AOpd) (lo : Option AOpd) (hi : Option AOpd) (tm : T AV) (σ : AS) : Option (AV × AS) :=
  (opd x tm).bind fun x => (opdO lo tm).bind fun lo => (opdO hi tm).bind fun hi =>
    match x with
    | .str s => (bounds3 s.length s.length lo hi none).map fun (l, h, _) => (.str ((s.take h).drop l), σ)
    | _ => none
def op_fieldAddr (off : Nat) (x : AOpd) (tm : T AV) (σ : AS) : Option (AV × AS) :=
  (opd x tm).bind fun | .ptr (some (b, o)) => some (.ptr (some (b, o + off)), σ) | _ => none
def op_field (off : Nat) (s : Sz) (x : AOpd) (tm : T AV) (σ : AS) : Option (AV × AS) :=
  (opd x tm).bind fun
    | .agg c => (partV s c off).map fun v => (v, σ)
    | _ => none
def op_idxAddrS (esz : Nat) (x : AOpd) (i : AOpd) (tm : T AV) (σ : AS) : Option (AV × AS) :=
  (opd x tm).bind fun x => (opd i tm).bind fun i => (asNat i).bind fun i =>
    match x with
    | .slc (some (b, o)) len _ _ _ => bif Nat.blt i len then some (.ptr (some (b, o + i * esz)), σ) else none
    | _ => none
def op_idxAddrA (n : Nat) (esz : Nat) (x : AOpd) (i : AOpd) (tm : T AV) (σ : AS) : Option (AV × AS) :=
  (opd x tm).bind fun x => (opd i tm).bind fun i => (asNat i).bind fun i =>
    match x with
    | .ptr (some (b, o)) => bif Nat.blt i n then some (.ptr (some (b, o + i * esz)), σ) else none
    | _ => none
def op_idxA (n : Nat) (esz : Nat) (s : Sz) (x : AOpd) (i : AOpd) (tm : T AV) (σ : AS) : Option (AV × AS) :=
  (opd x tm).bind fun x => (opd i tm).bind fun i => (asNat i).bind fun i =>
    match x with
    | .agg c => bif Nat.blt i n then (partV s c (i * esz)).map fun v => (v, σ) else none
    | _ => none
def op_idxStr (x : AOpd) (i : AOpd) (tm : T AV) (σ : AS) : Option (AV × AS) :=
  (opd x tm).bind fun x => (opd i tm).bind fun i => (asNat i).bind fun i =>
    match x with
    | .str s => s[i]?.map fun (c : Nat) => (AV.int .u8 (c : Int), σ)
    | _ => none
def op_lookup (kn : Nat) (zero : AV) (m : AOpd) (k : AOpd) (ok : Bool) (tm : T AV) (σ : AS) : Option (AV × AS) :=
  (opd m tm).bind fun m => (opd k tm).bind fun k =>
    (lookIn kn σ m k).map fun r => (lookOut zero ok r, σ)
def op_mapUpdate (kn : Nat) (m : AOpd) (k : AOpd) (v : AOpd) (tm : T AV) (σ : AS) : Option (AV × AS) :=
  (opd m tm).bind fun m => (opd k tm).bind fun k => (opd v tm).bind fun v =>
    match m with
    | .map (some r) =>
      bif !Nat.ble σ.floor r then none else
      match σ.heap.get r with
      | some (.map es cl) => (findKk kn k es).map fun
        | some (i, _, s) => (.tup [], { σ with heap := σ.heap.put r (some (.map (es.set i (k, v, s)) cl)) })
        | none => (.tup [], { σ with heap := σ.heap.put r (some (.map (es ++ [(k, v, cl)]) (cl + 1))) })
      | _ => none
    | _ => none
def op_mapEntry (kn : Nat) (zero : AV) (m : AOpd) (k : AOpd) (tm : T AV) (σ : AS) : Option (AV × AS) :=
  (opd m tm).bind fun m => (opd k tm).bind fun k =>
    match m with
    | .map (some r) =>
      bif !Nat.ble σ.floor r then none else
      match σ.heap.get r with
      | some (.map es cl) => (findKk kn k es).map fun
        | some (i, v, s) => (.tup [v, .int .i64 s], { σ with heap := σ.heap.put r (some (.map (es.set i (k, v, s)) cl)) })
        | none => (.tup [zero, .int .i64 cl], { σ with heap := σ.heap.put r (some (.map (es ++ [(k, zero, cl)]) (cl + 1))) })
      | _ => none
    | _ => none
def op_entryStore (m : AOpd) (s : AOpd) (v : AOpd) (tm : T AV) (σ : AS) : Option (AV × AS) :=
  (opd m tm).bind fun m => (opd s tm).bind fun s => (opd v tm).bind fun v =>
    match m, s with
    | .map (some r), .int _ s =>
      bif !Nat.ble σ.floor r then none else
      match σ.heap.get r with
      | some (.map es cl) => (findS s es 0).bind fun i => es[i]?.map fun (k, _, b) => (.tup [], { σ with heap := σ.heap.put r (some (.map (es.set i (k, v, b)) cl)) })
      | _ => none
    | _, _ => none
def op_extract (x : AOpd) (i : Nat) (tm : T AV) (σ : AS) : Option (AV × AS) :=
  (opd x tm).bind fun | .tup l => l[i]?.map fun v => (v, σ) | _ => none
def op_call (_x0 : AOpd) (_x1 : List AOpd) (tm : T AV) (σ : AS) : Option (AV × AS) :=
  none
def op_lenStr (x : AOpd) (tm : T AV) (σ : AS) : Option (AV × AS) := (opd x tm).bind fun
    | .str s => some (.int .i64 s.length, σ)
    | _ => none
def op_lenSlc (x : AOpd) (tm : T AV) (σ : AS) : Option (AV × AS) := (opd x tm).bind fun
    | .slc _ n _ _ _ => some (.int .i64 n, σ)
    | _ => none
def op_lenMap (x : AOpd) (tm : T AV) (σ : AS) : Option (AV × AS) := (opd x tm).bind fun
    | .map none => some (.int .i64 0, σ)
    | .map (some r) => match σ.heap.get r with | some (.map es _) => some (.int .i64 es.length, σ) | _ => none
    | _ => none
def op_append (et : Nat) (esz : Nat) (bytes : Nat) (s : AOpd) (x : AOpd) (tm : T AV) (σ : AS) : Option (AV × AS) :=
  (opd s tm).bind fun s => (opd x tm).bind fun x => appendV σ et esz bytes s x
def op_copy (esz : Nat) (d : AOpd) (s : AOpd) (tm : T AV) (σ : AS) : Option (AV × AS) :=
  (opd d tm).bind fun d => (opd s tm).bind fun s =>
    match d with
    | .slc a dl _ _ _ =>
      match s with
      | .slc sa sl _ _ _ =>
        let n := Nat.min sl dl
        (match sa with | none => some [] | some (b, o) => σ.readN b o (n * esz)).bind fun cs =>
        bif Nat.beq n 0 then some (.int .i64 0, σ) else
        match a with
        | some (b, o) => (σ.write b o cs).map fun σ => (.int .i64 n, σ)
        | none => none
      | _ => none
    | _ => none
def op_clear (zero : List AV) (x : AOpd) (tm : T AV) (σ : AS) : Option (AV × AS) :=
  (opd x tm).bind fun
    | .slc (some (b, o)) n _ _ _ => bif Nat.beq n 0 then some (.tup [], σ) else (σ.write b o (sizedZeros zero n)).map fun σ => (.tup [], σ)
    | .slc none _ _ _ _ => some (.tup [], σ)
    | _ => none
def op_delete (kn : Nat) (m : AOpd) (k : AOpd) (tm : T AV) (σ : AS) : Option (AV × AS) :=
  (opd m tm).bind fun m => (opd k tm).bind fun k =>
    match m with
    | .map (some r) =>
      bif !Nat.ble σ.floor r then none else
      match σ.heap.get r with
      | some (.map es cl) => (findKk kn k es).map fun
        | some (i, _, _) => (.tup [], { σ with heap := σ.heap.put r (some (.map (es.eraseIdx i) cl)) })
        | none => (.tup [], σ)
      | _ => none
    | _ => none
def op_min (xs : List AOpd) (tm : T AV) (σ : AS) : Option (AV × AS) :=
  (opds xs tm).bind fun | v :: r => (foldV minV v r).map fun v => (v, σ) | [] => none
def op_max (xs : List AOpd) (tm : T AV) (σ : AS) : Option (AV × AS) :=
  (opds xs tm).bind fun | v :: r => (foldV maxV v r).map fun v => (v, σ) | [] => none

def opV (o : AOp) : T AV → AS → Option (AV × AS) :=
  match o with
  | .mv x0 => op_mv x0
  | .pick x0 x1 x2 => op_pick x0 x1 x2
  | .new x0 => op_new x0
  | .box x0 => op_box x0
  | .build x0 x1 => op_build x0 x1
  | .buildSlice x0 x1 x2 x3 => op_buildSlice x0 x1 x2 x3
  | .load x0 x1 => op_load x0 x1
  | .store x0 x1 x2 => op_store x0 x1 x2
  | .nilCheck x0 => op_nilCheck x0
  | .bin x0 x1 x2 => op_bin x0 x1 x2
  | .eqAgg x0 x1 x2 x3 => op_eqAgg x0 x1 x2 x3
  | .eqB x0 x1 x2 => op_eqB x0 x1 x2
  | .eqNilS x0 x1 => op_eqNilS x0 x1
  | .eqNilP x0 x1 => op_eqNilP x0 x1
  | .not x0 => op_not x0
  | .neg x0 => op_neg x0
  | .conv x0 x1 => op_conv x0 x1
  | .strBytes x0 x1 => op_strBytes x0 x1
  | .strRunes x0 x1 => op_strRunes x0 x1
  | .sameBytes x0 => op_sameBytes x0
  | .mkFunc x0 x1 x2 => op_mkFunc x0 x1 x2
  | .mkMap => op_mkMap
  | .mkSlice x0 x1 x2 x3 x4 => op_mkSlice x0 x1 x2 x3 x4
  | .slice x0 x1 x2 x3 x4 x5 => op_slice x0 x1 x2 x3 x4 x5
  | .sliceArr x0 x1 x2 x3 x4 x5 x6 => op_sliceArr x0 x1 x2 x3 x4 x5 x6
  | .sliceStr x0 x1 x2 => op_sliceStr x0 x1 x2
  | .fieldAddr x0 x1 => op_fieldAddr x0 x1
  | .field x0 x1 x2 => op_field x0 x1 x2
  | .idxAddrS x0 x1 x2 => op_idxAddrS x0 x1 x2
  | .idxAddrA x0 x1 x2 x3 => op_idxAddrA x0 x1 x2 x3
  | .idxA x0 x1 x2 x3 x4 => op_idxA x0 x1 x2 x3 x4
  | .idxStr x0 x1 => op_idxStr x0 x1
  | .lookup x0 x1 x2 x3 x4 => op_lookup x0 x1 x2 x3 x4
  | .mapUpdate x0 x1 x2 x3 => op_mapUpdate x0 x1 x2 x3
  | .mapEntry x0 x1 x2 x3 => op_mapEntry x0 x1 x2 x3
  | .entryStore x0 x1 x2 => op_entryStore x0 x1 x2
  | .extract x0 x1 => op_extract x0 x1
  | .call x0 x1 => op_call x0 x1
  | .lenStr x0 => op_lenStr x0
  | .lenSlc x0 => op_lenSlc x0
  | .lenMap x0 => op_lenMap x0
  | .append x0 x1 x2 x3 x4 => op_append x0 x1 x2 x3 x4
  | .copy x0 x1 x2 => op_copy x0 x1 x2
  | .clear x0 x1 => op_clear x0 x1
  | .delete x0 x1 x2 => op_delete x0 x1 x2
  | .min x0 => op_min x0
  | .max x0 => op_max x0

/-- The evaluator's own two jobs, for less fuel. -/
structure Fns where
  exec : ACode → T AV → AS → Option (AExit × T AV × AS)
  call : AV → List AV → AS → Option (AV × AS)

def wanted (g : Option (Nat × Bool)) (tm : T AV) : Bool :=
  match g with
  | none => true
  | some (s, w) => match tm.get s with | some (.bool b) => b == w | _ => false

def putD (tm : T AV) (d : Option Nat) (v : Option AV) : T AV :=
  match d with
  | some d => tm.put d v
  | none => tm

def opCall (f : AOpd) (args : List AOpd) (G : Fns) (tm : T AV) (σ : AS) : Option (AV × AS) :=
  (opd f tm).bind fun f => (opds args tm).bind fun l => G.call f l σ
def callParts : AOp → Option (AOpd × List AOpd)
  | .call f args => some (f, args)
  | _ => none
def opAny (G : Fns) (o : AOp) : T AV → AS → Option (AV × AS) :=
  match callParts o with
  | some (f, args) => opCall f args G
  | none => opV o

def exStp (o : AOper) (G : Fns) (_ : Nat) (k : T AV → AS → Option (T AV × AS)) (tm : T AV) (σ : AS) : Option (T AV × AS) :=
  bif wanted o.guard tm then (opAny G o.op tm σ).bind fun (v, σ) => k (putD tm o.dst (some v)) σ
  else k (putD tm o.dst none) σ
def reStp (o : AOper) (_ : Fns) (_ : Nat) (k : T AV → AS → Option (T AV × AS)) (tm : T AV) (σ : AS) : Option (T AV × AS) :=
  bif wanted o.guard tm then (opV o.op tm σ).bind fun (v, _) => (o.dst.bind fun d => tm.get d).bind fun w => bif v.beq w then k tm σ else none
  else k tm σ
def alStp (j : Nat) (o : AOper) (_ : Fns) (base : Nat) (k : T AV → AS → Option (T AV × AS)) (tm : T AV) (σ : AS) : Option (T AV × AS) :=
  bif wanted o.guard tm then (bif Nat.beq (cls o.op) 2 then opV o.op tm { σ with next := base + j } else none).bind fun (v, σ') => k (putD tm o.dst (some v)) { σ' with next := σ.next }
  else k (putD tm o.dst none) σ
def doStp (s : Stp) : Fns → Nat → (T AV → AS → Option (T AV × AS)) → T AV → AS → Option (T AV × AS) :=
  match s with
  | .ex _ o => exStp o
  | .re _ o => reStp o
  | .al _ j o => alStp j o
def runSteps (G : Fns) (base : Nat) (l : List Stp) : T AV → AS → Option (T AV × AS) :=
  List.rec (fun tm σ => some (tm, σ)) (fun s _ k => doStp s G base k) l

def setArgs : List AV → Nat → T AV → T AV
  | [], _, tm => tm
  | v :: r, i, tm => setArgs r (i + 1) (tm.put i (some v))
def setParams : List Nat → List AV → T AV → Option (T AV)
  | [], [], tm => some tm
  | p :: ps, v :: vs, tm => setParams ps vs (tm.put p (some v))
  | _, _, _ => none
def resOne (tm : T AV) (σ : AS) : ARes → Option AV
  | .tmp t => tm.get t
  | .cell t s => (tm.get t).bind fun x => loadV σ s x
def resAll (tm : T AV) (σ : AS) : List ARes → Option (List AV)
  | [] => some []
  | r :: l => (resOne tm σ r).bind fun v => (resAll tm σ l).bind fun vs => some (v :: vs)
def resV (tm : T AV) (σ : AS) (l : List ARes) : Option AV :=
  (resAll tm σ l).map fun | [v] => v | vs => .tup vs

def callF (G : Fns) (af : AFunc) (args : List AV) (σ : AS) : Option (AV × AS) :=
  bif !Nat.beq args.length af.nparams then none else
  bif af.pure then
    (G.exec af.body (setArgs args 0 .e) { σ with floor := σ.next }).bind fun (x, tm, σ') =>
    match x with
    | .exit _ => none
    | _ => (resV tm σ' af.results).bind fun v => bif v.plainRes then some (v, σ) else none
  else
    (G.exec af.body (setArgs args 0 .e) σ).bind fun (x, tm, σ') =>
    match x with
    | .exit _ => none
    | _ => (resV tm σ' af.results).map fun v => (v, σ')

def yieldEnd (l : Nat) (r : ALoop) (x : AExit) (σ : AS) : AV × AS :=
  match x with
  | .normal => (.bool true, { σ with heap := σ.heap.put l (some (.loop { r with busy := false, pending := .normal })) })
  | x => (.bool false, { σ with heap := σ.heap.put l (some (.loop { r with busy := false, done := true, pending := x })) })
def yieldBody (G : Fns) (l : Nat) (body : ACode) (tm : T AV) (σ : AS) : Option (AV × AS) :=
  match σ.heap.get l with
  | some (.loop r) =>
    bif r.busy || r.done then none else
    (G.exec body tm { σ with heap := σ.heap.put l (some (.loop { r with busy := true })) }).map fun (x, _, σ) => yieldEnd l r x σ
  | _ => none
def callYield (G : Fns) (l : Nat) (args : List AV) (σ : AS) : Option (AV × AS) :=
  bif !Nat.ble σ.floor l then none else
  match σ.heap.get l with
  | some (.loop r) =>
    bif r.busy || r.done then none else
    (setParams r.params args r.tmps).bind fun tm =>
    (G.exec r.assign tm σ).bind fun (x, tm, σ) =>
      match x with
      | .normal => yieldBody G l r.body tm σ
      | _ => none
  | _ => none

abbrev ExRes := Option (AExit × T AV × AS)
def exSkip (_ : Fns) (tm : T AV) (σ : AS) : ExRes := some (.normal, tm, σ)
def exRegion (kept : Nat) (steps : List Stp) (G : Fns) (tm : T AV) (σ : AS) : ExRes := (runSteps G σ.next steps tm { σ with next := σ.next + kept }).map fun (tm, σ) => (.normal, tm, σ)
def exSeq (a b : ACode) (G : Fns) (tm : T AV) (σ : AS) : ExRes :=
  (G.exec a tm σ).bind fun (x, tm, σ) =>
    match x with
    | .normal => G.exec b tm σ
    | x => some (x, tm, σ)
def exCond (c : AOpd) (a b : ACode) (G : Fns) (tm : T AV) (σ : AS) : ExRes :=
  (opd c tm).bind fun v =>
    match v with
    | .bool t => (bif t then G.exec a else G.exec b) tm σ
    | _ => none
def exBlock (id : Nat) (b : ACode) (G : Fns) (tm : T AV) (σ : AS) : ExRes :=
  (G.exec b tm σ).map fun (x, tm, σ) =>
    match x with
    | .exit j => bif Nat.beq j id then (.normal, tm, σ) else (.exit j, tm, σ)
    | x => (x, tm, σ)
def exLoop (b : ACode) (G : Fns) (tm : T AV) (σ : AS) : ExRes :=
  (G.exec b tm σ).bind fun (x, tm, σ) =>
    match x with
    | .normal => G.exec (.loop b) tm σ
    | x => some (x, tm, σ)
def exRange (f : AOpd) (params : List Nat) (assign body : ACode) (G : Fns) (tm : T AV) (σ : AS) : ExRes :=
  (opd f tm).bind fun f =>
    (G.call f [.yld σ.next] (σ.alloc (.loop { busy := false, done := false, pending := .normal, tmps := tm, params, assign, body }))).bind fun (_, σ') =>
    match σ'.heap.get σ.next with
    | some (.loop r) => bif r.busy then none else some (r.pending, tm, { σ' with heap := σ'.heap.put σ.next none })
    | _ => none
def exExit (id : Nat) (_ : Fns) (tm : T AV) (σ : AS) : ExRes := some (.exit id, tm, σ)
def exRet (_ : Fns) (tm : T AV) (σ : AS) : ExRes := some (.ret, tm, σ)
def exScope (b : ACode) (G : Fns) (tm : T AV) (σ : AS) : ExRes := G.exec b tm σ

def execC (c : ACode) : Fns → T AV → AS → ExRes :=
  match c with
  | .skip => exSkip
  | .region _ kept steps => exRegion kept steps
  | .seq a b => exSeq a b
  | .cond c a b => exCond c a b
  | .block id b => exBlock id b
  | .loop b => exLoop b
  | .rangeFunc f ps a b => exRange f ps a b
  | .exit id => exExit id
  | .ret => exRet
  | .scope b => exScope b
  | .label _ => exSkip

def callFn (ft : T AFunc) (f : Nat) (first cap : List AV) (G : Fns) (args : List AV) (σ : AS) : Option (AV × AS) :=
  (ft.get f).bind fun af => callF G af (first ++ args ++ cap) σ
def callNone (_ : Fns) (_ : List AV) (_ : AS) : Option (AV × AS) := none
def callV (ft : T AFunc) (f : AV) : Fns → List AV → AS → Option (AV × AS) :=
  match f with
  | .fn f first cap => callFn ft f first cap
  | .yld l => fun G args σ => callYield G l args σ
  | _ => callNone

def stepF (ft : T AFunc) (G : Fns) : Fns where
  exec c tm σ := execC c G tm σ
  call f args σ := callV ft f G args σ

def fns (ft : T AFunc) (n : Nat) : Fns :=
  Nat.rec ⟨fun _ _ _ => none, fun _ _ _ => none⟩ (fun _ g => stepF ft g) n

end
end Go.AM
/- How the small machine's values and memory stand for the model's. -/
namespace Go.AM
open Go

namespace T
variable {α : Type}
@[simp] theorem get_e (k : Nat) : (e : T α).get k = none := rfl
theorem get_n (l : T α) (v : Option α) (r : T α) (k : Nat) : (n l v r).get k = bif Nat.beq k 0 then v else bif Nat.beq (k % 2) 1 then l.get (k / 2) else r.get (k / 2 - 1) := rfl
theorem setF_succ (f : Nat) (t : T α) (k : Nat) (x : Option α) : setF (f + 1) t k x =
    bif Nat.beq k 0 then n t.left x t.right else bif Nat.beq (k % 2) 1 then n (setF f t.left (k / 2) x) t.val t.right else n t.left t.val (setF f t.right (k / 2 - 1) x) := rfl
theorem get_eta (t : T α) (k : Nat) : t.get k = (n t.left t.val t.right).get k := by
  cases t with
  | e => rw [get_n]; cases h : Nat.beq k 0 <;> cases h2 : Nat.beq (k % 2) 1 <;> simp [left, right, val]
  | n l v r => rfl
theorem get_setF (f : Nat) : ∀ (t : T α) (k : Nat) (x : Option α) (j : Nat), k < f → (setF f t k x).get j = if j = k then x else t.get j := by
  induction f with
  | zero => intro t k x j h; omega
  | succ f ih =>
    intro t k x j h
    rw [setF_succ, get_eta t j]
    have hb : ∀ a b : Nat, Nat.beq a b = decide (a = b) := fun a b => by
      cases h : Nat.beq a b
      · have := Nat.ne_of_beq_eq_false h; simp [this]
      · have := Nat.eq_of_beq_eq_true h; simp [this]
    simp only [hb]
    by_cases k0 : k = 0
    · subst k0
      simp only [decide_true, cond_true, get_n, hb]
      by_cases j0 : j = 0
      · simp [j0]
      · simp [j0]
    · simp only [k0, decide_false, cond_false]
      by_cases k1 : k % 2 = 1
      · simp only [k1, decide_true, cond_true, get_n, hb, ih _ _ _ _ (show k / 2 < f by omega)]
        by_cases j0 : j = 0
        · subst j0; simp [Ne.symm k0]
        · by_cases j1 : j % 2 = 1
          · have : (j / 2 = k / 2) ↔ j = k := by omega
            simp [j0, j1, this]
          · have : j ≠ k := by omega
            simp [j0, j1, this]
      · simp only [k1, decide_false, cond_false, get_n, hb, ih _ _ _ _ (show k / 2 - 1 < f by omega)]
        by_cases j0 : j = 0
        · subst j0; simp [Ne.symm k0]
        · by_cases j1 : j % 2 = 1
          · have : j ≠ k := by omega
            simp [j0, j1, this]
          · have : (j / 2 - 1 = k / 2 - 1) ↔ j = k := by omega
            simp [j0, j1, this]
theorem get_put (t : T α) (k : Nat) (x : Option α) (j : Nat) : (t.put k x).get j = if j = k then x else t.get j := get_setF _ _ _ _ _ (Nat.lt_succ_self k)
end T

abbrev FM := Nat → Option (Nat × Nat × Nat)

/-- The size in cells, and in bytes, of a type. -/
def einfo (P : Program) (t : Nat) : Option (Nat × Nat) := (P.info? t).map fun i => (i.size, i.bytes)

def SlcR (P : Program) (rb p rs cap et : Nat) (ck : CK) (a : Addr) (rcap : Nat) : Prop :=
  (rcap = 0 ∨ a = ⟨rb, p, none⟩) ∧
  match ck with
  | .exact => rcap = cap
  | .tail => ∃ sz by_, einfo P et = some (sz, by_) ∧ (rcap = 0 ∨ p + rcap * sz = rs) ∧ True
  | .opaq => True

mutual
def VR (P : Program) (f : FM) : AV → Value → Prop
  | .bool b, v => v = .bool b
  | .int k n, v => v = .int k n
  | .str s, v => ∃ b : ByteArray, v = .string b ∧ b.data.toList.map UInt8.toNat = s
  | .ptr none, v => v = .pointer none
  | .ptr (some (b, o)), v => ∃ rb off rs, f b = some (rb, off, rs) ∧ v = .pointer (some ⟨rb, off + o, none⟩)
  | .slc none len cap _ _, v => len = 0 ∧ cap = 0 ∧ v = .slice none 0 0
  | .slc (some (b, o)) len cap et ck, v => ∃ rb off rs a rcap, f b = some (rb, off, rs) ∧ v = .slice (some a) len rcap ∧ len ≤ cap ∧ cap ≤ rcap ∧ SlcR P rb (off + o) rs cap et ck a rcap
  | .map none, v => v = .map none
  | .map (some r), v => ∃ rb off rs, f r = some (rb, off, rs) ∧ v = .map (some rb)
  | .fn g first cap, v => ∃ a c, v = .func (.func g) a c ∧ VRs P f first a.toList ∧ VRs P f cap c.toList
  | .yld l, v => ∃ rb off rs, f l = some (rb, off, rs) ∧ v = .func (.yield rb) #[] #[]
  | .nilFn, v => v = .nilFunc
  | .agg cs, v => ∃ a, v = .agg a ∧ VRs P f cs a.toList
  | .tup vs, v => ∃ a, v = .tuple a ∧ VRs P f vs a.toList
def VRs (P : Program) (f : FM) : List AV → List Value → Prop
  | [], l => l = []
  | x :: xs, l => ∃ v r, l = v :: r ∧ VR P f x v ∧ VRs P f xs r
end

def Sub (f f' : FM) : Prop := ∀ b t, f b = some t → f' b = some t
theorem Sub.refl (f : FM) : Sub f f := fun _ _ h => h
theorem Sub.trans {f g h : FM} (a : Sub f g) (b : Sub g h) : Sub f h := fun x t e => b x t (a x t e)

mutual
theorem VR.mono {P : Program} {f f' : FM} (hs : Sub f f') : ∀ (x : AV) (v : Value), VR P f x v → VR P f' x v
  | .bool _, _, h => by simpa only [VR] using h
  | .int _ _, _, h => by simpa only [VR] using h
  | .str _, _, h => by simpa only [VR] using h
  | .ptr none, _, h => by simpa only [VR] using h
  | .ptr (some (_, _)), _, h => by
    simp only [VR] at h ⊢
    obtain ⟨rb, off, rs, h1, h2⟩ := h
    exact ⟨rb, off, rs, hs _ _ h1, h2⟩
  | .slc none _ _ _ _, _, h => by simpa only [VR] using h
  | .slc (some (_, _)) _ _ _ _, _, h => by
    simp only [VR] at h ⊢
    obtain ⟨rb, off, rs, a, rcap, h1, h2⟩ := h
    exact ⟨rb, off, rs, a, rcap, hs _ _ h1, h2⟩
  | .map none, _, h => by simpa only [VR] using h
  | .map (some _), _, h => by
    simp only [VR] at h ⊢
    obtain ⟨rb, off, rs, h1, h2⟩ := h
    exact ⟨rb, off, rs, hs _ _ h1, h2⟩
  | .fn _ first cap, _, h => by
    simp only [VR] at h ⊢
    obtain ⟨a, c, h1, h2, h3⟩ := h
    exact ⟨a, c, h1, VRs.mono hs first _ h2, VRs.mono hs cap _ h3⟩
  | .yld _, _, h => by
    simp only [VR] at h ⊢
    obtain ⟨rb, off, rs, h1, h2⟩ := h
    exact ⟨rb, off, rs, hs _ _ h1, h2⟩
  | .nilFn, _, h => by simpa only [VR] using h
  | .agg cs, _, h => by
    simp only [VR] at h ⊢
    obtain ⟨a, h1, h2⟩ := h
    exact ⟨a, h1, VRs.mono hs cs _ h2⟩
  | .tup vs, _, h => by
    simp only [VR] at h ⊢
    obtain ⟨a, h1, h2⟩ := h
    exact ⟨a, h1, VRs.mono hs vs _ h2⟩
theorem VRs.mono {P : Program} {f f' : FM} (hs : Sub f f') : ∀ (x : List AV) (v : List Value), VRs P f x v → VRs P f' x v
  | [], _, h => by simpa only [VRs] using h
  | x :: xs, _, h => by
    simp only [VRs] at h ⊢
    obtain ⟨v, r, h1, h2, h3⟩ := h
    exact ⟨v, r, h1, VR.mono hs x _ h2, VRs.mono hs xs _ h3⟩
end

section lists
variable {P : Program} {f : FM}
theorem VRs.length : ∀ {l : List AV} {r : List Value}, VRs P f l r → r.length = l.length
  | [], _, h => by simp only [VRs] at h; simp [h]
  | _ :: l, _, h => by
    simp only [VRs] at h
    obtain ⟨v, r, rfl, _, h3⟩ := h
    simp [VRs.length h3]
theorem VRs.get : ∀ {l : List AV} {r : List Value} {i : Nat} {x : AV}, VRs P f l r → l[i]? = some x → ∃ v, r[i]? = some v ∧ VR P f x v
  | [], _, _, _, _, h => by simp at h
  | y :: l, _, 0, x, hv, h => by
    simp only [VRs] at hv
    obtain ⟨v, r, rfl, h2, _⟩ := hv
    simp at h; subst h
    exact ⟨v, rfl, h2⟩
  | y :: l, _, i + 1, x, hv, h => by
    simp only [VRs] at hv
    obtain ⟨v, r, rfl, _, h3⟩ := hv
    simp at h
    obtain ⟨u, h4, h5⟩ := VRs.get h3 h
    exact ⟨u, by simpa using h4, h5⟩
theorem VRs.of_get : ∀ {l : List AV} {r : List Value}, r.length = l.length → (∀ (i : Nat) (x : AV), l[i]? = some x → ∃ v, r[i]? = some v ∧ VR P f x v) → VRs P f l r
  | [], [], _, _ => by simp [VRs]
  | [], _ :: _, h, _ => by simp at h
  | _ :: _, [], h, _ => by simp at h
  | x :: l, v :: r, h, hg => by
    simp only [VRs]
    refine ⟨v, r, rfl, ?_, VRs.of_get (by simpa using h) (fun i y hy => ?_)⟩
    · obtain ⟨u, h1, h2⟩ := hg 0 x rfl
      simp at h1; subst h1; exact h2
    · obtain ⟨u, h1, h2⟩ := hg (i + 1) y (by simpa using hy)
      exact ⟨u, by simpa using h1, h2⟩
theorem VRs.append {l l' : List AV} {r r' : List Value} (h : VRs P f l r) (h' : VRs P f l' r') : VRs P f (l ++ l') (r ++ r') := by
  refine VRs.of_get (by simp [h.length, h'.length]) (fun i x hx => ?_)
  rw [List.getElem?_append] at hx
  split at hx
  · rename_i hi
    obtain ⟨v, h1, h2⟩ := h.get hx
    exact ⟨v, by rw [List.getElem?_append_left (by rw [h.length]; exact hi)]; exact h1, h2⟩
  · rename_i hi
    obtain ⟨v, h1, h2⟩ := h'.get hx
    exact ⟨v, by rw [List.getElem?_append_right (by rw [h.length]; omega), h.length]; exact h1, h2⟩
/-- The cells of a value. -/
theorem VR.cells {x : AV} {v : Value} (h : VR P f x v) : VRs P f x.cells v.cells.toList := by
  cases x with
  | agg cs =>
    simp only [VR] at h
    obtain ⟨a, rfl, h2⟩ := h
    exact h2
  | tup cs =>
    have h' := h
    simp only [VR] at h
    obtain ⟨a, rfl, h2⟩ := h
    simp only [AV.cells, Value.cells, VRs]
    exact ⟨_, _, rfl, h', rfl⟩
  | ptr a =>
    have h' := h
    rcases a with _ | ⟨b, o⟩
    · simp only [VR] at h; subst h; simp only [AV.cells, Value.cells, VRs]; exact ⟨_, _, rfl, h', rfl⟩
    · simp only [VR] at h; obtain ⟨_, _, _, _, rfl⟩ := h; simp only [AV.cells, Value.cells, VRs]; exact ⟨_, _, rfl, h', rfl⟩
  | slc a len cap et ck =>
    have h' := h
    rcases a with _ | ⟨b, o⟩
    · simp only [VR] at h; obtain ⟨_, _, rfl⟩ := h; simp only [AV.cells, Value.cells, VRs]; exact ⟨_, _, rfl, h', rfl⟩
    · simp only [VR] at h; obtain ⟨_, _, _, _, _, _, rfl, _⟩ := h; simp only [AV.cells, Value.cells, VRs]; exact ⟨_, _, rfl, h', rfl⟩
  | map a =>
    have h' := h
    rcases a with _ | r
    · simp only [VR] at h; subst h; simp only [AV.cells, Value.cells, VRs]; exact ⟨_, _, rfl, h', rfl⟩
    · simp only [VR] at h; obtain ⟨_, _, _, _, rfl⟩ := h; simp only [AV.cells, Value.cells, VRs]; exact ⟨_, _, rfl, h', rfl⟩
  | bool b => have h' := h; simp only [VR] at h; subst h; simp only [AV.cells, Value.cells, VRs]; exact ⟨_, _, rfl, h', rfl⟩
  | int k n => have h' := h; simp only [VR] at h; subst h; simp only [AV.cells, Value.cells, VRs]; exact ⟨_, _, rfl, h', rfl⟩
  | str s => have h' := h; simp only [VR] at h; obtain ⟨_, rfl, _⟩ := h; simp only [AV.cells, Value.cells, VRs]; exact ⟨_, _, rfl, h', rfl⟩
  | fn g a c => have h' := h; simp only [VR] at h; obtain ⟨_, _, rfl, _⟩ := h; simp only [AV.cells, Value.cells, VRs]; exact ⟨_, _, rfl, h', rfl⟩
  | yld l => have h' := h; simp only [VR] at h; obtain ⟨_, _, _, _, rfl⟩ := h; simp only [AV.cells, Value.cells, VRs]; exact ⟨_, _, rfl, h', rfl⟩
  | nilFn => have h' := h; simp only [VR] at h; subst h; simp only [AV.cells, Value.cells, VRs]; exact ⟨_, _, rfl, h', rfl⟩
theorem VR.oneCell {x : AV} {v : Value} (h : VR P f x v) (hx : x.scalar = true) : v.oneCell' = true := by
  cases x with
  | agg cs => simp [AV.scalar] at hx
  | tup cs => simp [AV.scalar] at hx
  | ptr a =>
    rcases a with _ | ⟨b, o⟩
    · simp only [VR] at h; subst h; rfl
    · simp only [VR] at h; obtain ⟨_, _, _, _, rfl⟩ := h; rfl
  | slc a len cap et ck =>
    rcases a with _ | ⟨b, o⟩
    · simp only [VR] at h; obtain ⟨_, _, rfl⟩ := h; rfl
    · simp only [VR] at h; obtain ⟨_, _, _, _, _, _, rfl, _⟩ := h; rfl
  | map a =>
    rcases a with _ | r
    · simp only [VR] at h; subst h; rfl
    · simp only [VR] at h; obtain ⟨_, _, _, _, rfl⟩ := h; rfl
  | bool b => simp only [VR] at h; subst h; rfl
  | int k n => simp only [VR] at h; subst h; rfl
  | str s => simp only [VR] at h; obtain ⟨_, rfl, _⟩ := h; rfl
  | fn g a c => simp only [VR] at h; obtain ⟨_, _, rfl, _⟩ := h; rfl
  | yld l => simp only [VR] at h; obtain ⟨_, _, _, _, rfl⟩ := h; rfl
  | nilFn => simp only [VR] at h; subst h; rfl
theorem VRs.oneCell {l : List AV} {r : List Value} (h : VRs P f l r) (hl : l.all AV.scalar = true) : ∀ v ∈ r, v.oneCell' = true := by
  intro v hv
  obtain ⟨i, hi⟩ := List.getElem?_of_mem hv
  have hlt : i < l.length := by rw [← h.length]; exact (List.getElem?_eq_some_iff.1 hi).1
  obtain ⟨u, h1, h2⟩ := h.get (List.getElem?_eq_getElem hlt)
  rw [hi] at h1; cases h1
  exact h2.oneCell (by rw [List.all_eq_true] at hl; exact hl _ (List.getElem_mem hlt))
end lists

end Go.AM
/- When an operation, a code, a function of the small machine is the one of the program: a check that Lean's kernel reckons. -/
namespace Go.AM
open Go

mutual
def okV : AV → Value → Bool
  | .bool a, .bool b => a == b
  | .int j a, .int k b => decide (j = k) && decide (a = b)
  | .str s, .string b => decide (b.data.toList.map UInt8.toNat = s)
  | .ptr none, .pointer none => true
  | .slc a l c _ _, .slice b m d => decide (a = none) && decide (b = none) && decide (l = 0) && decide (c = 0) && decide (m = 0) && decide (d = 0)
  | .map none, .map none => true
  | .nilFn, .nilFunc => true
  | .agg cs, .agg a => okVs cs a.toList
  | .tup cs, .tuple a => okVs cs a.toList
  | _, _ => false
def okVs : List AV → List Value → Bool
  | [], [] => true
  | x :: l, v :: r => okV x v && okVs l r
  | _, _ => false
end

mutual
theorem okV.vr {P : Program} {f : FM} : ∀ (x : AV) (v : Value), okV x v = true → VR P f x v
  | .bool a, v, h => by cases v <;> simp [okV] at h; simp [VR, h]
  | .int j a, v, h => by cases v <;> simp [okV] at h; simp [VR, h]
  | .str s, v, h => by cases v <;> simp [okV] at h; simpa [VR] using h
  | .ptr none, v, h => by
    cases v with
    | pointer a => cases a <;> simp [okV] at h; simp [VR]
    | _ => simp [okV] at h
  | .ptr (some _), v, h => by cases v <;> simp [okV] at h
  | .slc a l c et ck, v, h => by
    cases v <;> simp [okV] at h
    obtain ⟨⟨⟨⟨⟨rfl, rfl⟩, rfl⟩, rfl⟩, rfl⟩, rfl⟩ := h
    simp [VR]
  | .map none, v, h => by
    cases v with
    | map a => cases a <;> simp [okV] at h; simp [VR]
    | _ => simp [okV] at h
  | .map (some _), v, h => by cases v <;> simp [okV] at h
  | .fn _ _ _, v, h => by cases v <;> simp [okV] at h
  | .yld _, v, h => by cases v <;> simp [okV] at h
  | .nilFn, v, h => by cases v <;> simp [okV] at h; simp [VR]
  | .agg cs, v, h => by cases v <;> simp [okV] at h; simp only [VR]; exact ⟨_, rfl, okVs.vr cs _ h⟩
  | .tup cs, v, h => by cases v <;> simp [okV] at h; simp only [VR]; exact ⟨_, rfl, okVs.vr cs _ h⟩
theorem okVs.vr {P : Program} {f : FM} : ∀ (x : List AV) (v : List Value), okVs x v = true → VRs P f x v
  | [], [], _ => by simp [VRs]
  | [], _ :: _, h => by simp [okVs] at h
  | _ :: _, [], h => by simp [okVs] at h
  | x :: l, v :: r, h => by
    simp [okVs] at h
    simp only [VRs]
    exact ⟨v, r, rfl, okV.vr x v h.1, okVs.vr l r h.2⟩
end

def okO : AOpd → Operand → Bool
  | .tmp t, .tmp u => Nat.beq t u
  | .const v, .const w => okV v w
  | .func f, .func g => Nat.beq f g
  | _, _ => false
def okOs : List AOpd → List Operand → Bool
  | [], [] => true
  | x :: l, y :: r => okO x y && okOs l r
  | _, _ => false
def okOo : Option AOpd → Option Operand → Bool
  | none, none => true
  | some x, some y => okO x y
  | _, _ => false

variable (P : Program)

/-- The size of a type in cells; is a value of it one cell, or so many. -/
def okSz (t : Nat) (s : Sz) : Bool :=
  match P.underlying t, P.info? t with
  | some (.struct _), some i => decide (s = some i.size)
  | some (.array _ _), some i => decide (s = some i.size)
  | some _, some _ => decide (s = none)
  | _, _ => false
def okSize (t n : Nat) : Bool := match P.info? t with | some i => Nat.beq i.size n | none => false
def okInfo (t n by_ : Nat) : Bool := match P.info? t with | some i => Nat.beq i.size n && Nat.beq i.bytes by_ | none => false
def okZero (t : Nat) (zero : List AV) : Bool :=
  match P.info? t with
  | some i => match i.zero with | some z => okVs zero z.cells.toList && zero.all AV.scalar && Nat.beq zero.length i.size | none => false
  | none => false
def okZero1 (t : Nat) (zero : AV) : Bool :=
  match P.info? t with
  | some i => match i.zero with | some z => okV zero z | none => false
  | none => false

def okPartsS (fields : Array Field) : List (Nat × Nat × AOpd) → List (Nat × Operand) → Bool
  | [], [] => true
  | (o, n, x) :: l, (i, y) :: r =>
    (match fields[i]? with
     | some fd => Nat.beq fd.offset o && okSize P fd.type n
     | none => false) && okO x y && okPartsS fields l r
  | _, _ => false
def okPartsA (size : Nat) : List (Nat × Nat × AOpd) → List (Nat × Operand) → Bool
  | [], [] => true
  | (o, n, x) :: l, (i, y) :: r => Nat.beq (i * size) o && Nat.beq size n && okO x y && okPartsA size l r
  | _, _ => false
def okFieldsSized (fields : Array Field) : Bool := fields.toList.all fun fd => (P.info? fd.type).isSome

def ok_mv (x : AOpd) : Op → Bool
  | .move y | .assign y => okO x y
  | .call { callee := .builtin .len, args, argTypes } =>
    match x, argTypes[0]? with
    | .const (.int .i64 n), some t => (match P.underlying t with | some (.array m _) => decide ((m : Int) = n) && Nat.beq args.size 1 | _ => false)
    | _, _ => false
  | _ => false
def ok_pick (c a b : AOpd) : Op → Bool
  | .pick x y z => okO c x && okO a y && okO b z
  | _ => false
def ok_new (zero : List AV) : Op → Bool
  | .alloc t => okZero P t zero
  | _ => false
def ok_box (x : AOpd) : Op → Bool
  | .box _ y => okO x y
  | _ => false
def ok_build (zero : List AV) (parts : List (Nat × Nat × AOpd)) : Op → Bool
  | .build t ps => okZero P t zero &&
    match P.underlying t with
    | some (.struct fields) => okFieldsSized P fields && okPartsS P fields parts ps.toList
    | some (.array _ e) => match P.info? e with | some i => okPartsA i.size parts ps.toList | none => false
    | _ => false
  | _ => false
def ok_buildSlice (et n : Nat) (zero : List AV) (parts : List (Nat × Nat × AOpd)) : Op → Bool
  | .buildSlice t len ps => Nat.beq n len &&
    match P.underlying t with
    | some (.slice e) => Nat.beq e et &&
      match P.info? e with
      | some i => Nat.ble (len * i.size) 16777216 && okPartsA i.size parts ps.toList && Nat.blt 0 i.size &&
        match i.zero with
        | some z => okVs zero ((Array.range (len * i.size)).map (z.cells[· % z.cells.size]!)).toList && zero.all AV.scalar
        | none => false
      | none => false
    | _ => false
  | _ => false
def ok_load (s : Sz) (x : AOpd) : Op → Bool
  | .load t y => okO x y && okSz P t s
  | _ => false
def ok_store (n : Nat) (a v : AOpd) : Op → Bool
  | .store t y z => okO a y && okO v z && okSize P t n
  | _ => false
def ok_nilCheck (x : AOpd) : Op → Bool
  | .nilCheck y => okO x y
  | _ => false
def ok_bin (op : BinOp) (x y : AOpd) : Op → Bool
  | .binOp op' t a b _ => decide (op = op') && okO x a && okO y b && (P.underlying t).isSome
  | _ => false
def okIntField (fd : Field) : Bool := decide (fd.name ≠ "_") && match P.underlying fd.type with | some (.int _) => true | _ => false
def okIntFields : List Field → Nat → Bool
  | [], _ => true
  | fd :: r, i => okIntField P fd && Nat.beq fd.offset i && okIntFields r (i + 1)
/-- A struct, or an array, of whole numbers alone, of so many cells. -/
def okFlat (t n : Nat) : Bool :=
  match P.underlying t with
  | some (.struct fs) => !P.stoodInHeld t && okIntFields P fs.toList 0 && Nat.beq fs.size n
  | some (.array m e) => Nat.beq m n && (match P.underlying e, P.info? e with | some (.int _), some i => Nat.beq i.size 1 | _, _ => false)
  | _ => false
def sizeT (t : Nat) : Nat := match P.info? t with | some i => i.size | none => 0
def ok_eqAgg (n : Nat) (neg : Bool) (x y : AOpd) : Op → Bool
  | .binOp op t a b _ => (match op with | .eql => !neg | .neq => neg | _ => false) && okO x a && okO y b && okFlat P t n && !P.eqGuardType P.depth t
  | _ => false
def ok_eqB (neg : Bool) (x y : AOpd) : Op → Bool
  | .binOp op t a b _ => (match op with | .eql => !neg | .neq => neg | _ => false) && okO x a && okO y b && (match P.underlying t with | some .bool => true | _ => false)
  | _ => false
def ok_eqNilS (neg : Bool) (x : AOpd) : Op → Bool
  | .binOp op t a (.const (.slice none 0 0)) _ => (match op with | .eql => !neg | .neq => neg | _ => false) && okO x a && (match P.underlying t with | some (.slice _) => true | _ => false)
  | _ => false
def ok_eqNilP (neg : Bool) (x : AOpd) : Op → Bool
  | .binOp op t a (.const (.pointer none)) _ => (match op with | .eql => !neg | .neq => neg | _ => false) && okO x a && (match P.underlying t with | some (.pointer _) => true | _ => false)
  | _ => false
def ok_not (x : AOpd) : Op → Bool
  | .unOp .not _ y => okO x y
  | _ => false
def ok_neg (x : AOpd) : Op → Bool
  | .unOp .neg _ y => okO x y
  | _ => false
def ok_conv (k : IntKind) (x : AOpd) : Op → Bool
  | .convert s t y => okO x y && (P.underlying s).isSome && (match P.underlying t with | some (.int k') => decide (k = k') | _ => false)
  | _ => false
def okStrTo (s t et : Nat) (k : IntKind) : Bool :=
  match P.underlying s, P.underlying t with
  | some .string, some (.slice e) => Nat.beq e et && (match P.underlying e with | some (.int k') => decide (k' = k) | _ => false)
  | _, _ => false
def ok_strBytes (et : Nat) (x : AOpd) : Op → Bool
  | .convert s t y => okO x y && okStrTo P s t et .u8
  | _ => false
def ok_strRunes (et : Nat) (x : AOpd) : Op → Bool
  | .convert s t y => okO x y && okStrTo P s t et .i32
  | _ => false
def ok_sameBytes (x : AOpd) : Op → Bool
  | .convert s t y => okO x y && Nat.beq s t && (match P.underlying t with | some (.slice e) => (match P.underlying e with | some (.int .u8) => true | _ => false) | _ => false)
  | _ => false
def ok_mkFunc (f : Nat) (first cap : List AOpd) : Op → Bool
  | .makeFunc (.func g) a c => Nat.beq f g && okOs first a.toList && okOs cap c.toList
  | _ => false
def ok_mkMap : Op → Bool
  | .makeMap _ none => true
  | _ => false
def ok_mkSlice (et bytes : Nat) (zero : List AV) (l c : AOpd) : Op → Bool
  | .makeSlice t y z => okO l y && okO c z &&
    match P.underlying t with
    | some (.slice e) => Nat.beq e et && okZero P e zero && Nat.blt 0 zero.length && Nat.blt 0 bytes && (match P.info? e with | some i => Nat.beq i.bytes bytes | none => false)
    | _ => false
  | _ => false
def ok_slice (et esz : Nat) (x : AOpd) (lo hi mx : Option AOpd) : Op → Bool
  | .slice t y l h m => okO x y && okOo lo l && okOo hi h && okOo mx m && (match P.underlying t with | some (.slice e) => Nat.beq e et && okSize P e esz | _ => false)
  | _ => false
def ok_sliceArr (n et esz : Nat) (x : AOpd) (lo hi mx : Option AOpd) : Op → Bool
  | .slice t y l h m => okO x y && okOo lo l && okOo hi h && okOo mx m && (match P.underlying t with | some (.array k e) => Nat.beq k n && Nat.beq e et && okSize P e esz | _ => false)
  | _ => false
def ok_sliceStr (x : AOpd) (lo hi : Option AOpd) : Op → Bool
  | .slice t y l h none => okO x y && okOo lo l && okOo hi h && (match P.underlying t with | some .string => true | _ => false)
  | _ => false
def ok_fieldAddr (off : Nat) (x : AOpd) : Op → Bool
  | .fieldAddr t y i => okO x y &&
    match P.underlying t with
    | some (.struct fs) => (match fs[i]? with | some fd => Nat.beq fd.offset off && (match P.info? fd.type with | some j => Nat.blt 0 j.size | none => false) | none => false)
    | _ => false
  | _ => false
def ok_field (off : Nat) (s : Sz) (x : AOpd) : Op → Bool
  | .field t y i => okO x y &&
    match P.underlying t with
    | some (.struct fs) => (match fs[i]? with | some fd => Nat.beq fd.offset off && okSz P fd.type s | none => false)
    | _ => false
  | _ => false
def ok_idxAddrS (esz : Nat) (x i : AOpd) : Op → Bool
  | .indexAddr t y j => okO x y && okO i j && (match P.underlying t with | some (.slice e) => okSize P e esz | _ => false)
  | _ => false
def ok_idxAddrA (n esz : Nat) (x i : AOpd) : Op → Bool
  | .indexAddr t y j => okO x y && okO i j && (match P.underlying t with | some (.array k e) => Nat.beq k n && okSize P e esz | _ => false)
  | _ => false
def ok_idxA (n esz : Nat) (s : Sz) (x i : AOpd) : Op → Bool
  | .index t y j => okO x y && okO i j && (match P.underlying t with | some (.array k e) => Nat.beq k n && okSize P e esz && okSz P e s | _ => false)
  | _ => false
def ok_idxStr (x i : AOpd) : Op → Bool
  | .index t y j => okO x y && okO i j && (match P.underlying t with | some .string => true | _ => false)
  | _ => false
/-- A map's key: a whole number, or a struct of such. -/
def okKey (kn k : Nat) : Bool :=
  match P.underlying k with
  | some (.int _) => Nat.beq kn 0
  | some (.struct fs) => !P.stoodInHeld k && okIntFields P fs.toList 0 && Nat.beq fs.size kn && !Nat.beq kn 0
  | _ => false
def okMapT (kn t : Nat) (zero : Option AV) : Bool :=
  match P.underlying t with
  | some (.map k e) => okKey P kn k && (match zero with | some z => okZero1 P e z | none => true)
  | _ => false
def ok_lookup (kn : Nat) (zero : AV) (m k : AOpd) (ok : Bool) : Op → Bool
  | .lookup t y z c => okO m y && okO k z && (ok == c) && okMapT P kn t (some zero)
  | _ => false
def ok_mapUpdate (kn : Nat) (m k v : AOpd) : Op → Bool
  | .mapUpdate t y z u | .insert t y z u => okO m y && okO k z && okO v u && okMapT P kn t none
  | _ => false
def ok_mapEntry (kn : Nat) (zero : AV) (m k : AOpd) : Op → Bool
  | .mapEntry t y z => okO m y && okO k z && okMapT P kn t (some zero)
  | _ => false
def ok_entryStore (m s v : AOpd) : Op → Bool
  | .entryStore _ y z u => okO m y && okO s z && okO v u
  | _ => false
def ok_extract (x : AOpd) (i : Nat) : Op → Bool
  | .extract y j => okO x y && Nat.beq i j
  | _ => false
def ok_call (f : AOpd) (args : List AOpd) : Op → Bool
  | .call { callee := .value g, args := as, .. } => okO f g && okOs args as.toList
  | _ => false
def ok_lenStr (x : AOpd) : Op → Bool
  | .call { callee := .builtin .len, args, argTypes } =>
    (match args.toList, argTypes[0]? with | [y], some t => okO x y && (match P.underlying t with | some .string => true | _ => false) | _, _ => false)
  | _ => false
def ok_lenSlc (x : AOpd) : Op → Bool
  | .call { callee := .builtin .len, args, argTypes } =>
    (match args.toList, argTypes[0]? with | [y], some t => okO x y && (match P.underlying t with | some (.slice _) => true | _ => false) | _, _ => false)
  | _ => false
def ok_lenMap (x : AOpd) : Op → Bool
  | .call { callee := .builtin .len, args, argTypes } =>
    (match args.toList, argTypes[0]? with | [y], some t => okO x y && (match P.underlying t with | some (.map _ _) => true | _ => false) | _, _ => false)
  | _ => false
def ok_append (et esz bytes : Nat) (s x : AOpd) : Op → Bool
  | .call { callee := .builtin .append, args, argTypes } =>
    match args.toList, argTypes.toList with
    | [y, z], [t, u] => okO s y && okO x z && Nat.blt 0 esz && Nat.blt 0 bytes &&
      (match P.underlying t with | some (.slice e) => Nat.beq e et && okInfo P e esz bytes && ((P.info? e).any fun i => i.zero.any fun z => Nat.beq z.cells.size i.size) | _ => false) &&
      (match P.underlying u with | some (.int _) => false | some _ => true | none => false)
    | _, _ => false
  | _ => false
def ok_copy (esz : Nat) (d s : AOpd) : Op → Bool
  | .call { callee := .builtin .copy, args, argTypes } =>
    match args.toList, argTypes[0]? with
    | [y, z], some t => okO d y && okO s z && (match P.underlying t with | some (.slice e) => okSize P e esz | _ => false)
    | _, _ => false
  | _ => false
def ok_clear (zero : List AV) (x : AOpd) : Op → Bool
  | .call { callee := .builtin .clear, args, argTypes } =>
    match args.toList, argTypes[0]? with
    | [y], some t => okO x y && Nat.blt 0 zero.length && (match P.underlying t with | some (.slice e) => okZero P e zero | _ => false)
    | _, _ => false
  | _ => false
def ok_delete (kn : Nat) (m k : AOpd) : Op → Bool
  | .call { callee := .builtin .delete, args, argTypes } =>
    match args.toList, argTypes[0]? with
    | [y, z], some t => okO m y && okO k z && okMapT P kn t none
    | _, _ => false
  | _ => false
def ok_min (xs : List AOpd) : Op → Bool
  | .call { callee := .builtin .min, args, .. } => okOs xs args.toList
  | _ => false
def ok_max (xs : List AOpd) : Op → Bool
  | .call { callee := .builtin .max, args, .. } => okOs xs args.toList
  | _ => false

def okOp (a : AOp) : Op → Bool :=
  match a with
  | .mv x => ok_mv P x
  | .pick c a b => ok_pick c a b
  | .new z => ok_new P z
  | .box x => ok_box x
  | .build z p => ok_build P z p
  | .buildSlice e n z p => ok_buildSlice P e n z p
  | .load s x => ok_load P s x
  | .store n a v => ok_store P n a v
  | .nilCheck x => ok_nilCheck x
  | .bin op x y => ok_bin P op x y
  | .eqAgg k n x y => ok_eqAgg P k n x y
  | .eqB n x y => ok_eqB P n x y
  | .eqNilS n x => ok_eqNilS P n x
  | .eqNilP n x => ok_eqNilP P n x
  | .not x => ok_not x
  | .neg x => ok_neg x
  | .conv k x => ok_conv P k x
  | .strBytes e x => ok_strBytes P e x
  | .strRunes e x => ok_strRunes P e x
  | .sameBytes x => ok_sameBytes P x
  | .mkFunc f a c => ok_mkFunc f a c
  | .mkMap => ok_mkMap
  | .mkSlice e b z l c => ok_mkSlice P e b z l c
  | .slice e n x l h m => ok_slice P e n x l h m
  | .sliceArr n e s x l h m => ok_sliceArr P n e s x l h m
  | .sliceStr x l h => ok_sliceStr P x l h
  | .fieldAddr o x => ok_fieldAddr P o x
  | .field o s x => ok_field P o s x
  | .idxAddrS n x i => ok_idxAddrS P n x i
  | .idxAddrA n e x i => ok_idxAddrA P n e x i
  | .idxA n e s x i => ok_idxA P n e s x i
  | .idxStr x i => ok_idxStr P x i
  | .lookup n z m k b => ok_lookup P n z m k b
  | .mapUpdate n m k v => ok_mapUpdate P n m k v
  | .mapEntry n z m k => ok_mapEntry P n z m k
  | .entryStore m s v => ok_entryStore m s v
  | .extract x i => ok_extract x i
  | .call f a => ok_call f a
  | .lenStr x => ok_lenStr P x
  | .lenSlc x => ok_lenSlc P x
  | .lenMap x => ok_lenMap P x
  | .append e n b s x => ok_append P e n b s x
  | .copy n d s => ok_copy P n d s
  | .clear z x => ok_clear P z x
  | .delete n m k => ok_delete P n m k
  | .min l => ok_min l
  | .max l => ok_max l

/-- One operation, in a region of these: its place to write, its guard, its work. -/
def okOper (n : Nat) (ops : Array Oper) (a : AOper) (o : Oper) : Bool :=
  decide (a.dst = o.dst) && (match o.dst with | some d => Nat.blt d n | none => true) &&
  (match a.guard, o.guard with
   | none, none => true
   | some (s, w), some (j, v) => (w == v) && decide ((ops[j]?).bind (·.dst) = some s)
   | _, _ => false) && okOp P a.op o.op
def okPlain (n : Nat) (ops : Array Oper) : List Stp → List Oper → Bool
  | [], [] => true
  | .ex _ a :: l, o :: r => okOper P n ops a o && okPlain n ops l r
  | _, _ => false

def oSlots : AOpd → List Nat
  | .tmp t => [t]
  | _ => []
def ooSlots : Option AOpd → List Nat
  | some x => oSlots x
  | none => []
def pSlots : List (Nat × Nat × AOpd) → List Nat
  | [] => []
  | (_, _, x) :: r => oSlots x ++ pSlots r
def lSlots : List AOpd → List Nat
  | [] => []
  | x :: r => oSlots x ++ lSlots r
def slots : AOp → List Nat
  | .mv x | .box x | .load _ x | .nilCheck x | .eqNilS _ x | .eqNilP _ x | .not x | .neg x | .conv _ x | .strBytes _ x | .strRunes _ x | .sameBytes x
  | .fieldAddr _ x | .field _ _ x | .extract x _ | .lenStr x | .lenSlc x | .lenMap x | .clear _ x => oSlots x
  | .pick c a b => oSlots c ++ (oSlots a ++ oSlots b)
  | .new _ | .mkMap => []
  | .build _ ps | .buildSlice _ _ _ ps => pSlots ps
  | .store _ a v | .bin _ a v | .eqAgg _ _ a v | .eqB _ a v | .mkSlice _ _ _ a v | .idxAddrS _ a v | .idxAddrA _ _ a v | .idxA _ _ _ a v | .idxStr a v
  | .lookup _ _ a v _ | .mapEntry _ _ a v | .append _ _ _ a v | .copy _ a v | .delete _ a v => oSlots a ++ oSlots v
  | .mkFunc _ a c => lSlots a ++ lSlots c
  | .slice _ _ x l h m | .sliceArr _ _ _ x l h m => oSlots x ++ (ooSlots l ++ (ooSlots h ++ ooSlots m))
  | .sliceStr x l h => oSlots x ++ (ooSlots l ++ ooSlots h)
  | .mapUpdate _ a b c | .entryStore a b c => oSlots a ++ (oSlots b ++ oSlots c)
  | .call f l => oSlots f ++ lSlots l
  | .min l | .max l => lSlots l
def gSlots : Option (Nat × Bool) → List Nat
  | some (s, _) => [s]
  | none => []
/-- The slots that an operation looks at. -/
def looks (a : AOper) : List Nat := gSlots a.guard ++ slots a.op

def direct (ops : Array Oper) (i : Nat) : List Nat :=
  match ops[i]? with
  | some o => (o.after.toList.filter (Region.binds .any ·)).map (·.on)
  | none => []
/-- j is ahead of i, by the region's own edges. -/
def reach (ops : Array Oper) : Nat → Nat → Nat → Bool
  | 0, _, _ => false
  | n + 1, j, i => (direct ops i).any fun e => Nat.beq e j || reach ops n j e
def ahead (ops : Array Oper) (j i : Nat) : Bool := reach ops (ops.size + 1) j i

def Stp.idx : Stp → Nat
  | .ex i _ | .re i _ | .al i _ _ => i
def Stp.oper : Stp → AOper
  | .ex _ o | .re _ o | .al _ _ o => o
/-- The step at which an operation is carried out, and its kind. -/
def Stp.does : Stp → Bool
  | .re _ _ => false
  | _ => true
def Stp.loud : Stp → Bool
  | .ex _ o => Nat.beq (cls o.op) 3
  | _ => false
def Stp.looksMem : Stp → Bool
  | .ex _ o => Nat.beq (cls o.op) 1
  | .re _ _ => true
  | .al .. => false
def Stp.makes : Stp → Bool
  | .al .. => true
  | _ => false

/-- Each step is an operation of the region, in a kind that fits it. -/
def okStp (n : Nat) (ops : Array Oper) (kept : Nat) (s : Stp) : Bool :=
  (match ops[s.idx]? with | some o => okOper P n ops s.oper o | none => false) &&
  (match s with
   | .ex _ o => !Nat.beq (cls o.op) 2
   | .re _ o => Nat.beq (cls o.op) 1 && o.dst.isSome
   | .al _ j o => Nat.beq (cls o.op) 2 && Nat.blt j kept)
def idxs : List Stp → List Nat
  | [] => []
  | s :: r => bif s.does then s.idx :: idxs r else idxs r
def alNos : List Stp → List Nat
  | [] => []
  | .al _ j _ :: r => j :: alNos r
  | _ :: r => alNos r
def nodup : List Nat → Bool
  | [] => true
  | x :: r => !r.contains x && nodup r
/-- The order keeps the region's edges. -/
def okOrder (ops : Array Oper) : List Nat → List Stp → Bool
  | _, [] => true
  | done, s :: r => bif s.does then (direct ops s.idx).all (done.contains ·) && okOrder ops (s.idx :: done) r else done.contains s.idx && okOrder ops done r
/-- The next loud step behind. -/
def nextLoud : List Stp → Option Nat
  | [] => none
  | s :: r => bif s.loud then some s.idx else nextLoud r
/-- Is this operation read anew ahead of the next loud step? -/
def rereads (i : Nat) : List Stp → Bool
  | [] => false
  | s :: r => bif s.loud then false else (match s with | .re k _ => Nat.beq k i | _ => false) || rereads i r
/-- What is read at i may be read at any later stage, till a loud step that waits for it. -/
def okRead (ops : Array Oper) (i : Nat) : List Stp → Bool
  | [] => true
  | s :: r => bif s.loud then ahead ops i s.idx || (rereads i r && okRead ops i r) else okRead ops i r
/-- Along the steps: last loud one, whether memory was made since. -/
def okStages (ops : Array Oper) : Option Nat → Bool → List Stp → Bool
  | _, _, [] => true
  | last, made, s :: r =>
    bif s.loud then (match last with | some l => ahead ops l s.idx | none => true) && okStages ops (some s.idx) false r
    else bif s.makes then (match nextLoud r with | some l => ahead ops s.idx l | none => true) && okStages ops last true r
    else bif s.looksMem then !made && (bif s.does then (match last with | some l => ahead ops l s.idx | none => true) && okRead ops s.idx r else true) && okStages ops last made r
    else okStages ops last made r
/-- No slot is written twice; who looks at a slot that is written here stands ahead of that, or behind it. -/
def okSlots (ops : Array Oper) (all : List Stp) : List Stp → Bool
  | [] => true
  | s :: r => (all.all fun q => bif !s.does || !q.does || Nat.beq q.idx s.idx then true else
      match s.oper.dst with
      | none => true
      | some d => !decide (q.oper.dst = some d) && (bif (looks q.oper).contains d then ahead ops s.idx q.idx || ahead ops q.idx s.idx else true)) && okSlots ops all r
/-- What is read anew looks at no slot that is written behind it. -/
def okRe (ops : Array Oper) (all : List Stp) : List Stp → Bool
  | [] => true
  | .re i o :: r => (all.all fun q => bif !q.does then true else match q.oper.dst with | some d => bif (looks o).contains d then ahead ops q.idx i else true | none => true) && okRe ops all r
  | _ :: r => okRe ops all r
/-- None looks at what it writes itself. -/
def okSelf : List Stp → Bool
  | [] => true
  | s :: r => (match s.oper.dst with | some d => !(looks s.oper).contains d | none => true) && okSelf r
def opdBeq : AOpd → AOpd → Bool
  | .tmp a, .tmp b => Nat.beq a b
  | .const v, .const w => v.beq w
  | .func a, .func b => Nat.beq a b
  | _, _ => false
def readBeq : AOp → AOp → Bool
  | .load s x, .load s' x' => decide (s = s') && opdBeq x x'
  | .lookup n z m k o, .lookup n' z' m' k' o' => Nat.beq n n' && z.beq z' && opdBeq m m' && opdBeq k k' && (o == o')
  | .lenMap x, .lenMap x' => opdBeq x x'
  | _, _ => false
def operBeq (a b : AOper) : Bool := decide (a.dst = b.dst) && decide (a.guard = b.guard) && readBeq a.op b.op
/-- What is read anew is what was read. -/
def okTwin (all : List Stp) : List Stp → Bool
  | [] => true
  | .re i o :: r => (all.all fun q => bif Nat.beq q.idx i then operBeq q.oper o else true) && okTwin all r
  | _ :: r => okTwin all r
def okDraw (n : Nat) (ops : Array Oper) (kept : Nat) (steps : List Stp) : Bool :=
  steps.all (okStp P n ops kept) && nodup (idxs steps) && Nat.beq (idxs steps).length ops.size && nodup (alNos steps) && okOrder ops [] steps && okStages ops none false steps &&
  okSlots ops steps steps && okRe ops steps steps && okSelf steps && okTwin steps steps

/-- No range over a function in it. -/
def noRange : ACode → Bool
  | .rangeFunc .. => false
  | .seq a b | .cond _ a b => noRange a && noRange b
  | .block _ a | .loop a | .scope a => noRange a
  | _ => true

def okC (n : Nat) : ACode → Code → Bool
  | .skip, .skip => true
  | .region d kept steps, .region _ ops d' => (d == d') && (bif d then okDraw P n ops kept steps else Nat.beq kept 0 && okPlain P n ops steps ops.toList)
  | .seq a b, .seq c d => okC n a c && okC n b d
  | .cond x a b, .cond y c d => okO x y && okC n a c && okC n b d
  | .block i a, .block j c => Nat.beq i j && okC n a c
  | .loop a, .loop c => okC n a c
  | .rangeFunc x ps a b, .rangeFunc y qs c d => okO x y && decide (ps = qs.toList) && ps.all (Nat.blt · n) && okC n a c && okC n b d && noRange a
  | .exit i, .exit j => Nat.beq i j
  | .ret, .ret => true
  | .scope a, .scope c => okC n a c
  | .label _, .label _ => true
  | _, _ => false

def okRes : List ARes → List ResultVar → Bool
  | [], [] => true
  | .tmp t :: l, .tmp u :: r => Nat.beq t u && okRes l r
  | .cell t s :: l, .cell u ty :: r => Nat.beq t u && okSz P ty s && okRes l r
  | _, _ => false
def okF (af : AFunc) (fn : Func) : Bool :=
  match fn.body with
  | some c => okC P fn.ntmps af.body c && okRes P af.results fn.results.toList && Nat.ble af.nparams fn.ntmps && decide (fn.name ≠ "runtime.NumGoroutine")
  | none => false

end Go.AM
/- Memory: when the small machine's memory stands for the model's, and what a step of both keeps. -/
namespace Go.AM
open Go

def AObj.rw : AObj → Bool
  | .cells _ ro => !ro
  | _ => true

def TR (P : Program) (f : FM) (tm : T AV) (a : Array Value) : Prop :=
  (∀ (i : Nat) (v : AV), tm.get i = some v → ∃ rv, a[i]? = some rv ∧ VR P f v rv) ∧ ∀ (i : Nat), tm.get i = none → a.getD i undef = undef

def PendR : AExit → Option Code → Prop
  | .normal, p => p = none
  | .exit id, p => p = some (.exit id)
  | .ret, p => p = some .ret

structure LoopR (P : Program) (f : FM) (l : ALoop) (r : Loop) : Prop where
  state : r.state = if l.busy then .busy else if l.done then .done else .ready
  pend : PendR l.pending r.pending
  code : ∃ n, okC P n l.assign r.assign = true ∧ okC P n l.body r.body = true ∧ l.params.all (Nat.blt · n) = true ∧ n ≤ r.tmps.size ∧ noRange l.assign = true
  params : l.params = r.params.toList
  tmps : TR P f l.tmps r.tmps

def EsR (P : Program) (f : FM) (es : List (AV × AV × Nat)) (rs : List MapEntry) : Prop :=
  rs.length = es.length ∧ ∀ (i : Nat) k v s, es[i]? = some (k, v, s) → ∃ e, rs[i]? = some e ∧ VR P f k e.key ∧ VR P f v e.val ∧ e.born = s

def CellsR (P : Program) (f : FM) (c : List AV) (rc : Array Value) (off : Nat) : Prop :=
  ∀ (i : Nat) (v : AV), c[i]? = some v → v.scalar = true ∧ ∃ rv, rc[off + i]? = some rv ∧ VR P f v rv

def ObjR (P : Program) (f : FM) (w : World) (b : Nat) : AObj → Prop
  | .cells c ro => ∃ rb off rs rc et fr, f b = some (rb, off, rs) ∧ w.heap[rb]? = some (.cells rc et fr) ∧ rc.size = rs ∧ off + c.length ≤ rs ∧ CellsR P f c rc off ∧ (ro = false → fr.1 = fr.2 ∨ rs ≤ fr.1)
  | .map es cl => ∃ rb off rs res, f b = some (rb, off, rs) ∧ w.heap[rb]? = some (.map res cl) ∧ EsR P f es res.toList
  | .loop l => ∃ rb off rs r, f b = some (rb, off, rs) ∧ w.heap[rb]? = some (.loop r) ∧ LoopR P f l r

structure Rel (P : Program) (f : FM) (σ : AS) (w : World) : Prop where
  obj : ∀ b o, σ.heap.get b = some o → ObjR P f w b o
  lt : ∀ b o, σ.heap.get b = some o → b < σ.next
  inj : ∀ b b' o o' t t', σ.heap.get b = some o → σ.heap.get b' = some o' → b ≠ b' → o.rw = true → f b = some t → f b' = some t' → t.1 ≠ t'.1

variable {P : Program} {f f' : FM} {σ σ' : AS} {w w' : World}

theorem TR.mono (hs : Sub f f') {tm : T AV} {a : Array Value} (h : TR P f tm a) : TR P f' tm a :=
  ⟨fun i v hv => let ⟨rv, h1, h2⟩ := h.1 i v hv; ⟨rv, h1, h2.mono hs⟩, h.2⟩
theorem LoopR.mono (hs : Sub f f') {l : ALoop} {r : Loop} (h : LoopR P f l r) : LoopR P f' l r :=
  { h with tmps := h.tmps.mono hs }
theorem EsR.mono (hs : Sub f f') {es : List (AV × AV × Nat)} {rs : List MapEntry} (h : EsR P f es rs) : EsR P f' es rs :=
  ⟨h.1, fun i k v s he => let ⟨e, h1, h2, h3, h4⟩ := h.2 i k v s he; ⟨e, h1, h2.mono hs, h3.mono hs, h4⟩⟩
theorem CellsR.mono (hs : Sub f f') {c : List AV} {rc : Array Value} {off : Nat} (h : CellsR P f c rc off) : CellsR P f' c rc off :=
  fun i v hv => let ⟨h1, rv, h2, h3⟩ := h i v hv; ⟨h1, rv, h2, h3.mono hs⟩
theorem ObjR.mono (hs : Sub f f') {b : Nat} : ∀ {o : AObj}, ObjR P f w b o → ObjR P f' w b o
  | .cells _ _, ⟨rb, off, rs, rc, et, fr, h1, h2, h3, h4, h5, h6⟩ => ⟨rb, off, rs, rc, et, fr, hs _ _ h1, h2, h3, h4, h5.mono hs, h6⟩
  | .map _ _, ⟨rb, off, rs, res, h1, h2, h3⟩ => ⟨rb, off, rs, res, hs _ _ h1, h2, h3.mono hs⟩
  | .loop _, ⟨rb, off, rs, r, h1, h2, h3⟩ => ⟨rb, off, rs, r, hs _ _ h1, h2, h3.mono hs⟩
theorem ObjR.home {b : Nat} : ∀ {o : AObj}, ObjR P f w b o → ∃ t, f b = some t ∧ t.1 < w.heap.size
  | .cells _ _, ⟨rb, off, rs, rc, et, fr, h1, h2, _⟩ => ⟨_, h1, (Array.getElem?_eq_some_iff.1 h2).1⟩
  | .map _ _, ⟨rb, off, rs, res, h1, h2, _⟩ => ⟨_, h1, (Array.getElem?_eq_some_iff.1 h2).1⟩
  | .loop _, ⟨rb, off, rs, r, h1, h2, _⟩ => ⟨_, h1, (Array.getElem?_eq_some_iff.1 h2).1⟩
theorem ObjR.congr {b : Nat} {t : Nat × Nat × Nat} (ht : f b = some t) (hw : w'.heap[t.1]? = w.heap[t.1]?) : ∀ {o : AObj}, ObjR P f w b o → ObjR P f w' b o
  | .cells _ _, ⟨rb, off, rs, rc, et, fr, h1, h2, h3⟩ => ⟨rb, off, rs, rc, et, fr, h1, by rw [h1] at ht; cases ht; rw [hw]; exact h2, h3⟩
  | .map _ _, ⟨rb, off, rs, res, h1, h2, h3⟩ => ⟨rb, off, rs, res, h1, by rw [h1] at ht; cases ht; rw [hw]; exact h2, h3⟩
  | .loop _, ⟨rb, off, rs, r, h1, h2, h3⟩ => ⟨rb, off, rs, r, h1, by rw [h1] at ht; cases ht; rw [hw]; exact h2, h3⟩

/-- What a step keeps. -/
structure StR (P : Program) (f : FM) (σ : AS) (w : World) (f' : FM) (σ' : AS) (w' : World) : Prop where
  rel : Rel P f' σ' w'
  sub : Sub f f'
  off : ∀ b, ¬ (σ.next ≤ b ∧ b < σ'.next) → f' b = f b
  nx : σ.next ≤ σ'.next
  fl : σ'.floor = σ.floor
  sz : w.heap.size ≤ w'.heap.size
  kept : ∀ rb, rb < w.heap.size → (∀ b o t, σ.heap.get b = some o → o.rw = true → σ.floor ≤ b → f b = some t → t.1 ≠ rb) → w'.heap[rb]? = w.heap[rb]?
  fresh : ∀ b o t, σ'.heap.get b = some o → f' b = some t → w.heap.size ≤ t.1 ∨ ∃ b0 o0 t0, σ.heap.get b0 = some o0 ∧ f b0 = some t0 ∧ t0.1 = t.1 ∧ (o.rw = true → o0.rw = true ∧ (σ.floor ≤ b → σ.floor ≤ b0))
  out : w'.output = w.output
  os : w'.os = w.os

theorem StR.refl (h : Rel P f σ w) : StR P f σ w f σ w :=
  ⟨h, Sub.refl f, fun _ _ => rfl, Nat.le_refl _, rfl, Nat.le_refl _, fun _ _ _ => rfl, fun b o t h1 h2 => .inr ⟨b, o, t, h1, h2, rfl, fun h => ⟨h, id⟩⟩, rfl, rfl⟩
theorem StR.trans {f1 f2 : FM} {σ1 σ2 : AS} {w1 w2 : World} (h : StR P f σ w f1 σ1 w1) (k : StR P f1 σ1 w1 f2 σ2 w2) : StR P f σ w f2 σ2 w2 where
  rel := k.rel
  sub := h.sub.trans k.sub
  off b hb := by
    rw [k.off b (fun hh => hb ⟨Nat.le_trans h.nx hh.1, hh.2⟩), h.off b (fun hh => hb ⟨hh.1, Nat.lt_of_lt_of_le hh.2 k.nx⟩)]
  nx := Nat.le_trans h.nx k.nx
  fl := k.fl.trans h.fl
  sz := Nat.le_trans h.sz k.sz
  kept rb hr hno := by
    rw [k.kept rb (Nat.lt_of_lt_of_le hr h.sz) (fun b o t hg hrw hfl hf => ?_), h.kept rb hr hno]
    rcases h.fresh b o t hg hf with hlt | ⟨b0, o0, t0, g0, e0, e1, r⟩
    · omega
    · obtain ⟨r0, l0⟩ := r hrw
      rw [← e1]; exact hno b0 o0 t0 g0 r0 (l0 (by rw [← h.fl]; exact hfl)) e0
  fresh b o t hg hf := by
    rcases k.fresh b o t hg hf with hlt | ⟨b1, o1, t1, g1, e1, e2, r⟩
    · exact .inl (Nat.le_trans h.sz hlt)
    · rcases h.fresh b1 o1 t1 g1 e1 with hlt | ⟨b0, o0, t0, g0, e0, e3, r'⟩
      · exact .inl (by rw [← e2]; exact hlt)
      · refine .inr ⟨b0, o0, t0, g0, e0, e3.trans e2, fun hr => ?_⟩
        obtain ⟨r1, l1⟩ := r hr
        obtain ⟨r2, l2⟩ := r' r1
        exact ⟨r2, fun hl => l2 (by rw [← h.fl]; exact l1 (by rw [h.fl]; exact hl))⟩
  out := k.out.trans h.out
  os := k.os.trans h.os

/-- A world that has only grown and drawn: every object that was there lies as it lay. -/
theorem Rel.grown (h : Rel P f σ w) (hw : ∀ i, i < w.heap.size → w'.heap[i]? = w.heap[i]?) : Rel P f σ w' where
  obj b o hg := by
    obtain ⟨t, ht, hlt⟩ := (h.obj b o hg).home
    exact (h.obj b o hg).congr ht (hw _ hlt)
  lt := h.lt
  inj := h.inj

def upd (f : FM) (b : Nat) (t : Nat × Nat × Nat) : FM := fun x => if x = b then some t else f x
theorem upd_same (f : FM) (b : Nat) (t : Nat × Nat × Nat) : upd f b t b = some t := by simp [upd]
theorem upd_other (f : FM) {b x : Nat} (t : Nat × Nat × Nat) (h : x ≠ b) : upd f b t x = f x := by simp [upd, h]
theorem sub_upd {b : Nat} (t : Nat × Nat × Nat) (h : f b = none) : Sub f (upd f b t) := fun x u hx => by
  by_cases e : x = b
  · subst e; rw [h] at hx; cases hx
  · rw [upd_other f t e]; exact hx

/-- One object made, under a number that stands for none yet. -/
theorem Rel.made (h : Rel P f σ w) {b : Nat} {ao : AObj} {o : Obj} {t : Nat × Nat × Nat} {nx : Nat} (hb : f b = none) (hn : σ.heap.get b = none) (hlt : b < nx) (hnx : σ.next ≤ nx)
    (ht : t.1 = w.heap.size) (hw : ∀ i, i < w.heap.size → w'.heap[i]? = w.heap[i]?) (ho : ObjR P (upd f b t) w' b ao) :
    Rel P (upd f b t) { σ with heap := σ.heap.put b (some ao), next := nx } w' where
  obj x o' hg := by
    simp only [T.get_put] at hg
    split at hg
    · rename_i e; subst e; cases hg; exact ho
    · have hr := h.obj x o' hg
      obtain ⟨u, hu, hul⟩ := hr.home
      exact (hr.congr hu (hw _ hul)).mono (sub_upd t hb)
  lt x o' hg := by
    simp only [T.get_put] at hg
    split at hg
    · rename_i e; subst e; exact hlt
    · exact Nat.lt_of_lt_of_le (h.lt x o' hg) hnx
  inj x x' o1 o2 t1 t2 g1 g2 hne hrw e1 e2 := by
    simp only [T.get_put] at g1 g2
    split at g1
    · rename_i e; subst e
      rw [if_neg (Ne.symm hne)] at g2
      rw [upd_same] at e1; cases e1
      rw [upd_other f t (Ne.symm hne)] at e2
      obtain ⟨u, hu, hul⟩ := (h.obj x' o2 g2).home
      rw [hu] at e2; cases e2; omega
    · rename_i hx
      rw [upd_other f t hx] at e1
      split at g2
      · rename_i e; subst e
        rw [upd_same] at e2; cases e2
        obtain ⟨u, hu, hul⟩ := (h.obj x o1 g1).home
        rw [hu] at e1; cases e1; omega
      · rename_i hx'
        rw [upd_other f t hx'] at e2
        exact h.inj x x' o1 o2 t1 t2 g1 g2 hne hrw e1 e2

/-- An object of the step's own is turned. -/
theorem Rel.turned (h : Rel P f σ w) {b : Nat} {ao ao' : AObj} {t : Nat × Nat × Nat} (hg : σ.heap.get b = some ao) (hrw : ao.rw = true) (ht : f b = some t)
    (hw : ∀ i, i ≠ t.1 → w'.heap[i]? = w.heap[i]?) (ho : ObjR P f w' b ao') :
    Rel P f { σ with heap := σ.heap.put b (some ao') } w' where
  obj x o' hx := by
    simp only [T.get_put] at hx
    split at hx
    · rename_i e; subst e; cases hx; exact ho
    · rename_i hne
      have hr := h.obj x o' hx
      obtain ⟨u, hu, _⟩ := hr.home
      exact hr.congr hu (hw _ (Ne.symm (h.inj b x ao o' t u hg hx (Ne.symm hne) hrw ht hu)))
  lt x o' hx := by
    simp only [T.get_put] at hx
    split at hx
    · rename_i e; subst e; exact h.lt _ _ hg
    · exact h.lt x o' hx
  inj x x' o1 o2 t1 t2 g1 g2 hne hr e1 e2 := by
    simp only [T.get_put] at g1 g2
    by_cases hx : x = b
    · subst hx
      rw [if_neg (Ne.symm hne)] at g2
      exact h.inj x x' ao o2 t1 t2 hg g2 hne hrw e1 e2
    · rw [if_neg hx] at g1
      by_cases hx' : x' = b
      · subst hx'
        exact h.inj x x' o1 ao t1 t2 g1 hg hne hr e1 e2
      · rw [if_neg hx'] at g2
        exact h.inj x x' o1 o2 t1 t2 g1 g2 hne hr e1 e2

theorem StR.turned (h : Rel P f σ w) {b : Nat} {ao ao' : AObj} {t : Nat × Nat × Nat} (hg : σ.heap.get b = some ao) (hrw : ao.rw = true) (hfl : σ.floor ≤ b) (ht : f b = some t)
    (hw : ∀ i, i ≠ t.1 → w'.heap[i]? = w.heap[i]?) (hsz : w'.heap.size = w.heap.size) (hout : w'.output = w.output) (hos : w'.os = w.os) (ho : ObjR P f w' b ao') :
    StR P f σ w f { σ with heap := σ.heap.put b (some ao') } w' where
  rel := h.turned hg hrw ht hw ho
  sub := Sub.refl f
  off _ _ := rfl
  nx := Nat.le_refl _
  fl := rfl
  sz := by rw [hsz]; exact Nat.le_refl _
  kept rb _ hno := hw rb (Ne.symm (hno b ao t hg hrw hfl ht))
  fresh x o' u hx hu := by
    simp only [T.get_put] at hx
    split at hx
    · rename_i e; subst e; exact .inr ⟨x, ao, u, hg, hu, rfl, fun _ => ⟨hrw, id⟩⟩
    · exact .inr ⟨x, o', u, hx, hu, rfl, fun h => ⟨h, id⟩⟩
  out := hout
  os := hos

theorem StR.made (h : Rel P f σ w) {ao : AObj} {t : Nat × Nat × Nat} (hb : f σ.next = none)
    (ht : t.1 = w.heap.size) (hw : ∀ i, i < w.heap.size → w'.heap[i]? = w.heap[i]?) (hsz : w.heap.size ≤ w'.heap.size) (hout : w'.output = w.output) (hos : w'.os = w.os) (ho : ObjR P (upd f σ.next t) w' σ.next ao) :
    StR P f σ w (upd f σ.next t) (σ.alloc ao) w' where
  rel := h.made (nx := σ.next + 1) (o := default) hb (by cases e : σ.heap.get σ.next with | none => rfl | some o => exact absurd (h.lt _ _ e) (Nat.lt_irrefl _)) (Nat.lt_succ_self _) (Nat.le_succ _) ht hw ho
  sub := sub_upd t hb
  off b hb' := upd_other f t (fun e => hb' ⟨by rw [e]; exact Nat.le_refl _, by rw [e]; exact Nat.lt_succ_self _⟩)
  nx := Nat.le_succ _
  fl := rfl
  sz := hsz
  kept rb hr _ := hw rb hr
  fresh x o' u hx hu := by
    simp only [AS.alloc, T.get_put] at hx
    split at hx
    · rename_i e; subst e; rw [upd_same] at hu; cases hu; exact .inl (by omega)
    · rename_i hne; rw [upd_other f t hne] at hu; exact .inr ⟨x, o', u, hx, hu, rfl, fun h => ⟨h, id⟩⟩
  out := hout
  os := hos

/-- Only draws. -/
theorem StR.same (h : Rel P f σ w) (hw : w'.heap = w.heap) (hout : w'.output = w.output) (hos : w'.os = w.os) : StR P f σ w f σ w' where
  rel := h.grown (fun i _ => by rw [hw])
  sub := Sub.refl f
  off _ _ := rfl
  nx := Nat.le_refl _
  fl := rfl
  sz := by rw [hw]; exact Nat.le_refl _
  kept _ _ _ := by rw [hw]
  fresh b o t h1 h2 := .inr ⟨b, o, t, h1, h2, rfl, fun h => ⟨h, id⟩⟩
  out := hout
  os := hos

end Go.AM
/- Each operation that only reckons: the small machine's answer stands for the model's. -/
namespace Go.AM
open Go

variable {P : Program} {f : FM} {tm : T AV} {σ σ' : AS} {a : Act} {v : AV} {o : Oper}

theorem getD_of {l : Array Value} {i : Nat} {x d : Value} (h : l[i]? = some x) : l.getD i d = x := by
  simp [Array.getD_eq_getD_getElem?, h]

theorem opd_sound {x : AOpd} {y : Operand} (hok : okO x y = true) (ha : TR P f tm a.tmps) (hv : opd x tm = some v) : VR P f v (a.eval y) := by
  cases x with
  | tmp t =>
    cases y <;> simp [okO] at hok
    subst hok
    obtain ⟨rv, h1, h2⟩ := ha.1 _ _ hv
    simp only [Act.eval, getD_of h1]; exact h2
  | const c =>
    cases y <;> simp [okO] at hok
    simp [opd] at hv; subst hv
    exact okV.vr _ _ hok
  | func g =>
    cases y <;> simp [okO] at hok
    simp [opd] at hv; subst hv; subst hok
    simp [Act.eval, VR, VRs]

theorem opds_nil : opds [] tm = some [] := rfl
theorem opds_cons (x : AOpd) (l : List AOpd) : opds (x :: l) tm = (opd x tm).bind fun v => (opds l tm).bind fun vs => some (v :: vs) := rfl
theorem opds_sound : ∀ {xs : List AOpd} {ys : List Operand} {vs : List AV}, okOs xs ys = true → TR P f tm a.tmps → opds xs tm = some vs → VRs P f vs (ys.map a.eval)
  | [], [], vs, _, _, h => by simp [opds_nil] at h; subst h; simp [VRs]
  | [], _ :: _, _, h, _, _ => by simp [okOs] at h
  | _ :: _, [], _, h, _, _ => by simp [okOs] at h
  | x :: xs, y :: ys, vs, hok, ha, h => by
    simp [okOs] at hok
    simp only [opds_cons, Option.bind_eq_some_iff] at h
    obtain ⟨u, h1, us, h2, h3⟩ := h
    cases h3
    simp only [List.map_cons, VRs]
    exact ⟨_, _, rfl, opd_sound hok.1 ha h1, opds_sound hok.2 ha h2⟩
def OR (P : Program) (f : FM) (u : Option AV) (q : Option Value) : Prop :=
  match u, q with
  | none, none => True
  | some p, some q => VR P f p q
  | _, _ => False
theorem opdO_sound {x : Option AOpd} {y : Option Operand} {u : Option AV} (hok : okOo x y = true) (ha : TR P f tm a.tmps) (hv : opdO x tm = some u) : OR P f u (y.map a.eval) := by
  cases x <;> cases y <;> simp [okOo] at hok
  · simp [opdO] at hv; subst hv; simp [OR]
  · simp [opdO] at hv
    obtain ⟨z, h1, h2⟩ := hv
    subst h2
    exact opd_sound hok ha h1

def PureOK (P : Program) (f : FM) (o : Oper) (a : Act) (v : AV) (σ σ' : AS) : Prop :=
  σ' = σ ∧ ∃ rv, VR P f v rv ∧ ∀ w, (execOp a.eval o).run P w = .ok (.value rv) w

theorem bind_some {α β : Type} {x : Option α} {g : α → Option β} {b : β} (h : x.bind g = some b) : ∃ a, x = some a ∧ g a = some b := Option.bind_eq_some_iff.1 h
theorem map_some {α β : Type} {x : Option α} {g : α → β} {b : β} (h : x.map g = some b) : ∃ a, x = some a ∧ g a = b := Option.map_eq_some_iff.1 h

theorem run_underlying' {t : Nat} {d : TypeDesc} (h : P.underlying t = some d) (w : World) : (underlying t).run P w = .ok d w := by
  simp [underlying, h]
theorem run_typeInfo' {t : Nat} {i : TypeInfo} (h : P.info? t = some i) (w : World) : (typeInfo t).run P w = .ok i w := by
  simp [typeInfo, h]
theorem run_sizeOf' {t : Nat} {i : TypeInfo} (h : P.info? t = some i) (w : World) : (sizeOf t).run P w = .ok i.size w := by
  simp [sizeOf, run_typeInfo' h]
theorem size_of_ok {t n : Nat} (h : okSize P t n = true) (w : World) : (sizeOf t).run P w = .ok n w := by
  unfold okSize at h
  split at h
  · rename_i i hi
    rw [run_sizeOf' hi, Nat.eq_of_beq_eq_true h]
  · cases h

theorem p_mv {x : AOpd} (hok : ok_mv P x o.op = true) (ha : TR P f tm a.tmps) (hv : op_mv x tm σ = some (v, σ')) : PureOK P f o a v σ σ' := by
  obtain ⟨u, h1, h2⟩ := map_some hv
  cases h2
  refine ⟨rfl, ?_⟩
  unfold ok_mv at hok
  split at hok
  · rename_i y ho
    exact ⟨_, opd_sound hok ha h1, fun w => by simp [execOp, ho]⟩
  · rename_i y ho
    exact ⟨_, opd_sound hok ha h1, fun w => by simp [execOp, ho]⟩
  · rename_i args argTypes ho
    split at hok
    · rename_i n t ht
      split at hok
      · rename_i m e hu
        simp [opd] at h1; subst h1
        simp at hok
        obtain ⟨hm, hsz⟩ := hok
        refine ⟨.int .i64 n, by simp [VR], fun w => ?_⟩
        have h0 : ∃ z, args[0]? = some z := by
          have : 0 < args.size := by omega
          exact ⟨args[0], by simp [this]⟩
        obtain ⟨z, hz⟩ := h0
        simp [execOp, ho, resolve, invoke, builtin, Builtin.len_, ht, hz, run_underlying' hu, goInt, hm]
      · cases hok
    · cases hok
  · cases hok

theorem p_pick {c x y : AOpd} (hok : ok_pick c x y o.op = true) (ha : TR P f tm a.tmps) (hv : op_pick c x y tm σ = some (v, σ')) : PureOK P f o a v σ σ' := by
  unfold ok_pick at hok
  split at hok
  · rename_i c' x' y' ho
    simp at hok
    obtain ⟨u, h1, h2⟩ := bind_some hv
    have hc := opd_sound hok.1.1 ha h1
    split at h2
    · rename_i t
      simp only [VR] at hc
      obtain ⟨z, h3, h4⟩ := map_some h2
      cases h4
      cases t
      · exact ⟨rfl, _, opd_sound hok.2 ha h3, fun w => by simp [execOp, ho, hc, asBool]⟩
      · exact ⟨rfl, _, opd_sound hok.1.2 ha h3, fun w => by simp [execOp, ho, hc, asBool]⟩
    · cases h2
  · cases hok

theorem p_nilCheck {x : AOpd} (hok : ok_nilCheck x o.op = true) (ha : TR P f tm a.tmps) (hv : op_nilCheck x tm σ = some (v, σ')) : PureOK P f o a v σ σ' := by
  unfold ok_nilCheck at hok
  split at hok
  · rename_i y ho
    obtain ⟨u, h1, h2⟩ := bind_some hv
    have hc := opd_sound hok ha h1
    split at h2
    · cases h2
      refine ⟨rfl, _, hc, fun w => ?_⟩
      rename_i p
      obtain ⟨b, q⟩ := p
      simp only [VR] at hc
      obtain ⟨rb, off, rs, hf, hc⟩ := hc
      simp [execOp, ho, hc]
    · cases h2
      refine ⟨rfl, _, hc, fun w => ?_⟩
      simp only [VR] at hc
      obtain ⟨p, q, hc, _⟩ := hc
      simp [execOp, ho, hc]
    · cases h2
      refine ⟨rfl, _, hc, fun w => ?_⟩
      simp only [VR] at hc
      obtain ⟨rb, off, rs, hf, hc⟩ := hc
      simp [execOp, ho, hc]
    · cases h2
  · cases hok

theorem equalIn_bool (d : Nat) {t : Nat} (hu : P.underlying t = some .bool) (x y : Bool) (w : World) : (Op.equalIn (d + 1) t (.bool x) (.bool y)).run P w = .ok (x == y) w := by
  simp only [Op.equalIn, Sem.run_bind, run_underlying' hu, Result.andThen_ok, Sem.run_pure]
theorem equalIn_sliceNil (d : Nat) {t e : Nat} (hu : P.underlying t = some (.slice e)) (x : Option Addr) (n c : Nat) (w : World) : (Op.equalIn (d + 1) t (.slice x n c) (.slice none 0 0)).run P w = .ok x.isNone w := by
  cases x <;> simp only [Op.equalIn, Sem.run_bind, run_underlying' hu, Result.andThen_ok, Sem.run_pure, Option.isNone]
theorem equalIn_ptrNil (d : Nat) {t e : Nat} (hu : P.underlying t = some (.pointer e)) (x : Option Addr) (w : World) : (Op.equalIn (d + 1) t (.pointer x) (.pointer none)).run P w = .ok x.isNone w := by
  cases x <;> simp only [Op.equalIn, Sem.run_bind, run_underlying' hu, Result.andThen_ok, Sem.run_pure, Option.isNone]
/-- '==' and '!=' by Op.equal, where the guard is silent. -/
theorem run_eq_of {op : BinOp} {neg : Bool} (hop : (match op with | .eql => !neg | .neq => neg | _ => false) = true) {t ty : Nat} {x y : Operand} (ho : o.op = .binOp op t x y ty)
    {r : Bool} {w : World} (hg : (eqGuard op t x y (a.eval x) (a.eval y)).run P w = .ok () w)
    (h1 : binOp .eql t (a.eval x) (a.eval y) = (do pure (.bool (← Op.equal t (a.eval x) (a.eval y)))))
    (h2 : binOp .neq t (a.eval x) (a.eval y) = (do pure (.bool (!(← Op.equal t (a.eval x) (a.eval y))))))
    (he : (Op.equal t (a.eval x) (a.eval y)).run P w = .ok r w) : (execOp a.eval o).run P w = .ok (.value (.bool (xor neg r))) w := by
  unfold execOp
  rw [ho]
  dsimp only
  split at hop
  · simp at hop; subst hop
    rw [h1]
    simp only [Sem.run_bind, hg, he, Result.andThen_ok, Sem.run_pure, Bool.false_xor]
  · subst hop
    rw [h2]
    simp only [Sem.run_bind, hg, he, Result.andThen_ok, Sem.run_pure, Bool.true_xor]
  · cases hop

theorem p_eqB {neg : Bool} {x y : AOpd} (hok : ok_eqB P neg x y o.op = true) (ha : TR P f tm a.tmps) (hv : op_eqB neg x y tm σ = some (v, σ')) : PureOK P f o a v σ σ' := by
  unfold ok_eqB at hok
  split at hok
  · rename_i op t p q ty ho
    simp only [Bool.and_eq_true] at hok
    obtain ⟨⟨⟨hop, hx⟩, hy⟩, ht⟩ := hok
    split at ht
    · rename_i hu
      obtain ⟨u1, h1, h2⟩ := bind_some hv
      obtain ⟨u2, h3, h4⟩ := bind_some h2
      have hp := opd_sound hx ha h1
      have hq := opd_sound hy ha h3
      split at h4
      · rename_i b1 b2
        cases h4
        simp only [VR] at hp hq
        refine ⟨rfl, .bool (xor neg (b1 == b2)), by simp [VR], fun w => run_eq_of hop ho ?_ ?_ ?_ ?_⟩
        · rw [hp, hq]; unfold eqGuard; cases op <;> rfl
        · rw [hp, hq]; rfl
        · rw [hp, hq]; rfl
        · rw [hp, hq]; exact equalIn_bool 9999 hu b1 b2 w
      · cases h4
    · cases ht
  · cases hok

theorem p_eqNilS {neg : Bool} {x : AOpd} (hok : ok_eqNilS P neg x o.op = true) (ha : TR P f tm a.tmps) (hv : op_eqNilS neg x tm σ = some (v, σ')) : PureOK P f o a v σ σ' := by
  unfold ok_eqNilS at hok
  split at hok
  · rename_i op t p ty ho
    simp only [Bool.and_eq_true] at hok
    obtain ⟨⟨hop, hx⟩, ht⟩ := hok
    split at ht
    · rename_i e hu
      obtain ⟨u1, h1, h4⟩ := bind_some hv
      have hp := opd_sound hx ha h1
      split at h4
      · rename_i q len cap et ck
        cases h4
        refine ⟨rfl, .bool (xor neg q.isNone), by simp [VR], fun w => ?_⟩
        have key : ∃ b m c, a.eval p = .slice b m c ∧ b.isNone = q.isNone := by
          rcases q with _ | ⟨b, off⟩
          · simp only [VR] at hp; exact ⟨_, _, _, hp.2.2, rfl⟩
          · simp only [VR] at hp; obtain ⟨rb, off', rs, ad, rcap, _, hp, _⟩ := hp; exact ⟨_, _, _, hp, rfl⟩
        obtain ⟨b, m, c, hp, hb⟩ := key
        rw [← hb]
        refine run_eq_of hop ho ?_ ?_ ?_ ?_
        · rw [hp]; unfold eqGuard; cases op <;> rfl
        · rw [hp]; rfl
        · rw [hp]; rfl
        · rw [hp]; exact equalIn_sliceNil 9999 hu b m c w
      · cases h4
    · cases ht
  · cases hok

theorem p_eqNilP {neg : Bool} {x : AOpd} (hok : ok_eqNilP P neg x o.op = true) (ha : TR P f tm a.tmps) (hv : op_eqNilP neg x tm σ = some (v, σ')) : PureOK P f o a v σ σ' := by
  unfold ok_eqNilP at hok
  split at hok
  · rename_i op t p ty ho
    simp only [Bool.and_eq_true] at hok
    obtain ⟨⟨hop, hx⟩, ht⟩ := hok
    split at ht
    · rename_i e hu
      obtain ⟨u1, h1, h4⟩ := bind_some hv
      have hp := opd_sound hx ha h1
      split at h4
      · rename_i q
        cases h4
        refine ⟨rfl, .bool (xor neg q.isNone), by simp [VR], fun w => ?_⟩
        have key : ∃ b, a.eval p = .pointer b ∧ b.isNone = q.isNone := by
          rcases q with _ | ⟨b, off⟩
          · simp only [VR] at hp; exact ⟨_, hp, rfl⟩
          · simp only [VR] at hp; obtain ⟨rb, off', rs, _, hp⟩ := hp; exact ⟨_, hp, rfl⟩
        obtain ⟨b, hp, hb⟩ := key
        rw [← hb]
        refine run_eq_of hop ho ?_ ?_ ?_ ?_
        · rw [hp]; unfold eqGuard; cases op <;> rfl
        · rw [hp]; rfl
        · rw [hp]; rfl
        · rw [hp]; exact equalIn_ptrNil 9999 hu b w
      · cases h4
    · cases ht
  · cases hok

theorem p_not {x : AOpd} (hok : ok_not x o.op = true) (ha : TR P f tm a.tmps) (hv : op_not x tm σ = some (v, σ')) : PureOK P f o a v σ σ' := by
  unfold ok_not at hok
  split at hok
  · rename_i ty y ho
    obtain ⟨u, h1, h2⟩ := bind_some hv
    have hc := opd_sound hok ha h1
    split at h2
    · cases h2
      simp only [VR] at hc
      exact ⟨rfl, _, rfl, fun w => by simp [execOp, ho, hc, Op.unary]⟩
    · cases h2
  · cases hok

end Go.AM
/- Each operation that only reckons, further: numbers, text, structs, slices, addresses. -/
namespace Go.AM
open Go

variable {P : Program} {f : FM} {tm : T AV} {σ σ' : AS} {a : Act} {v : AV} {o : Oper}

theorem wrapSlow_eq (k : IntKind) (n : Int) : wrapSlow k n = k.wrap n := by
  unfold wrapSlow
  cases h : (decide (lo k ≤ n) && decide (n ≤ hi k)) with
  | false => rfl
  | true =>
    simp only [cond_true]
    simp only [Bool.and_eq_true, decide_eq_true_eq] at h
    cases k <;> simp only [lo, hi] at h <;> simp only [IntKind.wrap, IntKind.signed, IntKind.bits, Bool.true_and, Bool.false_and, decide_eq_true_eq, Bool.false_eq_true, if_false, Nat.reduceSub, Int.reducePow, ge_iff_le]
    case i8 => by_cases h0 : (128 : Int) ≤ n % 256 <;> simp only [h0, if_true, if_false] <;> omega
    case i16 => by_cases h0 : (32768 : Int) ≤ n % 65536 <;> simp only [h0, if_true, if_false] <;> omega
    case i32 => by_cases h0 : (2147483648 : Int) ≤ n % 4294967296 <;> simp only [h0, if_true, if_false] <;> omega
    case i64 => by_cases h0 : (9223372036854775808 : Int) ≤ n % 18446744073709551616 <;> simp only [h0, if_true, if_false] <;> omega
    all_goals omega
theorem wrapF_eq (k : IntKind) (n : Int) : wrapF k n = k.wrap n := by
  unfold wrapF
  cases n with
  | ofNat m =>
    dsimp only
    cases h : Nat.ble m 127 with
    | false => simp only [cond_false]; exact wrapSlow_eq _ _
    | true =>
      have := Nat.le_of_ble_eq_true h
      simp only [cond_true]
      rw [← wrapSlow_eq]
      unfold wrapSlow
      have : (decide (lo k ≤ Int.ofNat m) && decide (Int.ofNat m ≤ hi k)) = true := by
        simp only [Bool.and_eq_true, decide_eq_true_eq]
        cases k <;> simp only [lo, hi] <;> simp <;> omega
      rw [this]; rfl
  | negSucc m => exact wrapSlow_eq _ _
theorem kEq_iff {j k : IntKind} : kEq j k = true ↔ j = k := by
  cases j <;> cases k <;> simp [kEq, kn]

theorem intOp_sound {op : BinOp} {k : IntKind} {x y : Int} {r : AV} (h : intOp op k x y = some r) (hs : op ≠ .shl) (hs' : op ≠ .shr) :
    ∃ rv, VR P f r rv ∧ ∀ (t : Nat) (w : World), (binOp op t (.int k x) (.int k y)).run P w = .ok rv w := by
  cases op <;> first | (exact absurd rfl hs) | (exact absurd rfl hs') | skip
  all_goals simp only [intOp] at h
  case add => cases h; exact ⟨_, rfl, fun t w => by simp [binOp, Op.intArith, wrapF_eq]⟩
  case sub => cases h; exact ⟨_, rfl, fun t w => by simp [binOp, Op.intArith, wrapF_eq]⟩
  case mul => cases h; exact ⟨_, rfl, fun t w => by simp [binOp, Op.intArith, wrapF_eq]⟩
  case quo =>
    by_cases hy : y = 0
    · simp [hy] at h
    · simp [hy] at h; subst h
      exact ⟨_, rfl, fun t w => by simp [binOp, Op.intDiv, hy, wrapF_eq]⟩
  case rem =>
    by_cases hy : y = 0
    · simp [hy] at h
    · simp [hy] at h; subst h
      exact ⟨_, rfl, fun t w => by simp [binOp, Op.intDiv, hy]⟩
  case and => cases h; exact ⟨_, rfl, fun t w => by simp only [binOp, Op.intBits]; simp⟩
  case or => cases h; exact ⟨_, rfl, fun t w => by simp only [binOp, Op.intBits]; simp⟩
  case xor => cases h; exact ⟨_, rfl, fun t w => by simp only [binOp, Op.intBits]; simp⟩
  case eql => cases h; exact ⟨_, rfl, fun t w => by simp [binOp, Op.intCmp]; rfl⟩
  case neq => cases h; exact ⟨_, rfl, fun t w => by simp [binOp, Op.intCmp, bne]; rfl⟩
  case lss => cases h; exact ⟨_, rfl, fun t w => by simp [binOp, Op.intCmp]⟩
  case leq => cases h; exact ⟨_, rfl, fun t w => by simp [binOp, Op.intCmp]⟩
  case gtr => cases h; exact ⟨_, rfl, fun t w => by simp [binOp, Op.intCmp]⟩
  case geq => cases h; exact ⟨_, rfl, fun t w => by simp [binOp, Op.intCmp]⟩
  case andNot => cases h

theorem strEq_iff : ∀ (x y : List Nat), strEq x y = decide (x = y)
  | [], [] => by simp [strEq]
  | [], _ :: _ => by simp [strEq]
  | _ :: _, [] => by simp [strEq]
  | a :: x, b :: y => by
    simp only [strEq, strEq_iff x y]
    cases h : Nat.beq a b
    · have := Nat.ne_of_beq_eq_false h; simp [this]
    · have := Nat.eq_of_beq_eq_true h; simp [this]
theorem map_toNat_inj : ∀ {x y : List UInt8}, x.map UInt8.toNat = y.map UInt8.toNat → x = y
  | [], [], _ => rfl
  | [], _ :: _, h => by simp at h
  | _ :: _, [], h => by simp at h
  | a :: x, b :: y, h => by
    have h1 := List.cons.inj h
    have e1 : a = b := UInt8.toNat_inj.1 h1.1
    have e2 : x = y := map_toNat_inj h1.2
    rw [e1, e2]

theorem strOp_sound {op : BinOp} {x y : List Nat} {r : AV} (h : strOp op x y = some r) {p q : ByteArray} (hp : p.data.toList.map UInt8.toNat = x) (hq : q.data.toList.map UInt8.toNat = y) :
    ∃ rv, VR P f r rv ∧ ∀ (t : Nat) (w : World), (binOp op t (.string p) (.string q)).run P w = .ok rv w := by
  have hlp : p.size = x.length := by rw [← hp, List.length_map]; rfl
  have hlq : q.size = y.length := by rw [← hq, List.length_map]; rfl
  have heq : (p.toList == q.toList) = strEq x y := by
    rw [strEq_iff, ByteArray.toList_eq, ByteArray.toList_eq]
    by_cases e : x = y
    · have : p.data.toList = q.data.toList := map_toNat_inj (by rw [hp, hq, e])
      simp [this, e]
    · have : p.data.toList ≠ q.data.toList := fun h => e (by rw [← hp, ← hq, h])
      simp only [e, decide_false]
      exact beq_eq_false_iff_ne.2 this
  cases op <;> simp only [strOp] at h <;> first | (cases h; done) | skip
  case add =>
    cases hb : Nat.ble (x.length + y.length) 1048576 with
    | false => simp [hb] at h
    | true =>
      simp [hb] at h; subst h
      have := Nat.le_of_ble_eq_true hb
      refine ⟨.string (p ++ q), ?_, fun t w => ?_⟩
      · simp only [VR]
        exact ⟨_, rfl, by simp [← hp, ← hq]⟩
      · simp only [binOp, Op.stringOp]
        rw [if_neg (by simp [IntKind.max, IntKind.signed, IntKind.bits]; omega)]
        simp
  case eql => cases h; exact ⟨_, rfl, fun t w => by simp only [binOp, Op.stringOp, heq]; simp⟩
  case neq => cases h; exact ⟨_, rfl, fun t w => by simp only [binOp, Op.stringOp, heq]; simp⟩

theorem p_bin {op : BinOp} {x y : AOpd} (hok : ok_bin P op x y o.op = true) (ha : TR P f tm a.tmps) (hv : op_bin op x y tm σ = some (v, σ')) : PureOK P f o a v σ σ' := by
  unfold ok_bin at hok
  split at hok
  · rename_i op' t p q ty ho
    simp only [Bool.and_eq_true, decide_eq_true_eq] at hok
    obtain ⟨⟨⟨rfl, hx⟩, hy⟩, _⟩ := hok
    obtain ⟨u1, h1, h2⟩ := bind_some hv
    obtain ⟨u2, h3, h4⟩ := bind_some h2
    obtain ⟨r, h5, h6⟩ := map_some h4
    cases h6
    have hp := opd_sound hx ha h1
    have hq := opd_sound hy ha h3
    refine ⟨rfl, ?_⟩
    have fin : ∀ rv, VR P f v rv → (∀ w, (binOp op t (a.eval p) (a.eval q)).run P w = .ok rv w) → (∀ w, (eqGuard op t p q (a.eval p) (a.eval q)).run P w = .ok () w) →
        ∃ rv, VR P f v rv ∧ ∀ w, (execOp a.eval o).run P w = .ok (.value rv) w := fun rv h1 h2 h3 => by
      refine ⟨rv, h1, fun w => ?_⟩
      unfold execOp
      rw [ho]
      dsimp only
      simp only [Sem.run_bind, h3, h2, Result.andThen_ok, Sem.run_pure]
    unfold binV at h5
    split at h5
    · rename_i k1 x1 k2 y1
      simp only [VR] at hp hq
      have hgd : ∀ w, (eqGuard op t p q (a.eval p) (a.eval q)).run P w = .ok () w := fun w => by
        rw [hp, hq]; unfold eqGuard; cases op <;> rfl
      split at h5
      · by_cases hy : y1 < 0
        · simp [hy] at h5
        · simp [hy] at h5; subst h5
          exact fin _ rfl (fun w => by rw [hp, hq]; simp only [binOp, Op.shift, if_neg hy]; rfl) hgd
      · by_cases hy : y1 < 0
        · simp [hy] at h5
        · simp [hy] at h5; subst h5
          exact fin _ rfl (fun w => by rw [hp, hq]; simp only [binOp, Op.shift, if_neg hy]; rfl) hgd
      · rename_i hs1 hs2
        cases hk : kEq k1 k2 with
        | false => simp [hk] at h5
        | true =>
          have := kEq_iff.1 hk; subst this
          simp [hk] at h5
          obtain ⟨rv, hr1, hr2⟩ := intOp_sound (P := P) (f := f) h5 hs1 hs2
          exact fin rv hr1 (fun w => by rw [hp, hq]; exact hr2 t w) hgd
    · simp only [VR] at hp hq
      obtain ⟨b1, hp, hb1⟩ := hp
      obtain ⟨b2, hq, hb2⟩ := hq
      obtain ⟨rv, hr1, hr2⟩ := strOp_sound (P := P) (f := f) h5 hb1 hb2
      exact fin rv hr1 (fun w => by rw [hp, hq]; exact hr2 t w) (fun w => by rw [hp, hq]; unfold eqGuard; cases op <;> rfl)
    · cases h5
  · cases hok

theorem p_neg {x : AOpd} (hok : ok_neg x o.op = true) (ha : TR P f tm a.tmps) (hv : op_neg x tm σ = some (v, σ')) : PureOK P f o a v σ σ' := by
  unfold ok_neg at hok
  split at hok
  · rename_i ty y ho
    obtain ⟨u, h1, h2⟩ := bind_some hv
    have hc := opd_sound hok ha h1
    split at h2
    · cases h2
      simp only [VR] at hc
      exact ⟨rfl, _, rfl, fun w => by simp [execOp, ho, hc, Op.unary, Op.intArith, wrapF_eq]⟩
    · cases h2
  · cases hok

theorem p_conv {k : IntKind} {x : AOpd} (hok : ok_conv P k x o.op = true) (ha : TR P f tm a.tmps) (hv : op_conv k x tm σ = some (v, σ')) : PureOK P f o a v σ σ' := by
  unfold ok_conv at hok
  split at hok
  · rename_i s t y ho
    simp only [Bool.and_eq_true] at hok
    obtain ⟨⟨hx, hs⟩, ht⟩ := hok
    obtain ⟨ds, hs⟩ := Option.isSome_iff_exists.1 hs
    split at ht
    · rename_i k' hu
      simp at ht; subst ht
      obtain ⟨u, h1, h2⟩ := bind_some hv
      have hc := opd_sound hx ha h1
      split at h2
      · cases h2
        simp only [VR] at hc
        refine ⟨rfl, _, rfl, fun w => ?_⟩
        simp only [execOp, ho, convert, Sem.run_bind, run_underlying' hs, run_underlying' hu, Result.andThen_ok, hc, Conv.intToInt, Sem.run_pure, wrapF_eq]
      · cases h2
    · cases ht
  · cases hok

theorem p_mkFunc {g : Nat} {first cap : List AOpd} (hok : ok_mkFunc g first cap o.op = true) (ha : TR P f tm a.tmps) (hv : op_mkFunc g first cap tm σ = some (v, σ')) : PureOK P f o a v σ σ' := by
  unfold ok_mkFunc at hok
  split at hok
  · rename_i g' x y ho
    simp only [Bool.and_eq_true] at hok
    obtain ⟨⟨hg, hx⟩, hy⟩ := hok
    have := Nat.eq_of_beq_eq_true hg; subst this
    obtain ⟨u1, h1, h2⟩ := bind_some hv
    obtain ⟨u2, h3, h4⟩ := map_some h2
    cases h4
    refine ⟨rfl, .func (.func g) (x.map a.eval) (y.map a.eval), ?_, fun w => by simp [execOp, ho, Instr.makeFunc]⟩
    simp only [VR]
    exact ⟨_, _, rfl, by simpa using opds_sound hx ha h1, by simpa using opds_sound hy ha h3⟩
  · cases hok

theorem p_extract {x : AOpd} {i : Nat} (hok : ok_extract x i o.op = true) (ha : TR P f tm a.tmps) (hv : op_extract x i tm σ = some (v, σ')) : PureOK P f o a v σ σ' := by
  unfold ok_extract at hok
  split at hok
  · rename_i y j ho
    simp only [Bool.and_eq_true] at hok
    have := Nat.eq_of_beq_eq_true hok.2; subst this
    obtain ⟨u, h1, h2⟩ := bind_some hv
    have hc := opd_sound hok.1 ha h1
    split at h2
    · obtain ⟨z, h3, h4⟩ := map_some h2
      cases h4
      simp only [VR] at hc
      obtain ⟨vs, hc, hvs⟩ := hc
      obtain ⟨rv, h5, h6⟩ := hvs.get h3
      refine ⟨rfl, rv, h6, fun w => ?_⟩
      have h5' : vs[i]? = some rv := by simpa using h5
      simp [execOp, ho, hc, Instr.extract, h5']
    · cases h2
  · cases hok

theorem run_len {x : Operand} {args : Array Operand} {argTypes : Array Nat} (ho : o.op = .call { callee := .builtin .len, args := args, argTypes := argTypes }) (hargs : args.toList = [x]) (w : World) {r : Value}
    (h : (Builtin.len_ argTypes o.type #[a.eval x]).run P w = .ok r w) : (execOp a.eval o).run P w = .ok (.value r) w := by
  have hargs' : args = #[x] := by cases args; simpa using hargs
  subst hargs'
  unfold execOp
  rw [ho]
  dsimp only
  simp only [resolve, invoke, builtin, Sem.run_bind, Sem.run_pure, Result.andThen_ok]
  simp [h]

theorem p_lenStr {x : AOpd} (hok : ok_lenStr P x o.op = true) (ha : TR P f tm a.tmps) (hv : op_lenStr x tm σ = some (v, σ')) : PureOK P f o a v σ σ' := by
  unfold ok_lenStr at hok
  split at hok
  · rename_i args argTypes ho
    split at hok
    · rename_i y t hargs ht
      simp only [Bool.and_eq_true] at hok
      obtain ⟨hx, hu⟩ := hok
      split at hu
      · rename_i hu'
        obtain ⟨u, h1, h2⟩ := bind_some hv
        have hc := opd_sound hx ha h1
        split at h2
        · cases h2
          simp only [VR] at hc
          obtain ⟨b, hc, hb⟩ := hc
          refine ⟨rfl, _, rfl, fun w => run_len ho hargs w ?_⟩
          have hs : (b.data.toList.map UInt8.toNat).length = b.size := by rw [List.length_map]; rfl
          rw [← hb, hs]
          simp [Builtin.len_, ht, run_underlying' hu', hc, goInt]
        · cases h2
      · cases hu
    · cases hok
  · cases hok

theorem p_lenSlc {x : AOpd} (hok : ok_lenSlc P x o.op = true) (ha : TR P f tm a.tmps) (hv : op_lenSlc x tm σ = some (v, σ')) : PureOK P f o a v σ σ' := by
  unfold ok_lenSlc at hok
  split at hok
  · rename_i args argTypes ho
    split at hok
    · rename_i y t hargs ht
      simp only [Bool.and_eq_true] at hok
      obtain ⟨hx, hu⟩ := hok
      split at hu
      · rename_i e hu'
        obtain ⟨u, h1, h2⟩ := bind_some hv
        have hc := opd_sound hx ha h1
        split at h2
        · rename_i b n c et ck
          cases h2
          have key : ∃ b' m c', a.eval y = .slice b' m c' ∧ m = n := by
            rcases b with _ | ⟨b, off⟩
            · simp only [VR] at hc; exact ⟨_, _, _, hc.2.2, hc.1.symm⟩
            · simp only [VR] at hc; obtain ⟨rb, off', rs, ad, rcap, _, hc, _⟩ := hc; exact ⟨_, _, _, hc, rfl⟩
          obtain ⟨b', m, c', hc2, rfl⟩ := key
          refine ⟨rfl, _, rfl, fun w => run_len ho hargs w ?_⟩
          simp [Builtin.len_, ht, run_underlying' hu', hc2, goInt]
        · cases h2
      · cases hu
    · cases hok
  · cases hok

end Go.AM
/- Each operation that only reckons, further: slices, addresses, parts, equality of structs. -/
namespace Go.AM
open Go

variable {P : Program} {f : FM} {tm : T AV} {σ σ' : AS} {a : Act} {v : AV} {o : Oper}

theorem asNat_sound {x : AV} {n : Nat} {r : Value} (h : asNat x = some n) (hr : VR P f x r) : ∃ k, r = .int k (n : Int) := by
  cases x <;> simp [asNat] at h
  rename_i k z
  by_cases hz : 0 ≤ z
  · simp [hz] at h
    simp only [VR] at hr
    exact ⟨k, by rw [hr, ← h]; simp; omega⟩
  · simp [hz] at h

theorem bound_sound {x : AV} {n y : Nat} {r : Value} (h : asNat x = some n) (hr : VR P f x r) (hle : n ≤ y) (code : BoundsCode) (w : World) : (Instr.sliceBound r y code).run P w = .ok n w := by
  obtain ⟨k, rfl⟩ := asNat_sound h hr
  have : (0 : Int) ≤ n ∧ (n : Int) ≤ y := ⟨by omega, by omega⟩
  simp [Instr.sliceBound, asIntOf, hle]

theorem ble_key {z : AV} {n y : Nat} (he : ((asNat z).bind fun m => bif Nat.ble m y then some m else none) = some n) : asNat z = some n ∧ n ≤ y := by
  obtain ⟨q, g1, g2⟩ := bind_some he
  cases hq : Nat.ble q y with
  | false => simp [hq] at g2
  | true => simp [hq] at g2; subst g2; exact ⟨g1, Nat.le_of_ble_eq_true hq⟩

theorem bounds_sound {isSlice : Bool} {len cap rcap : Nat} {lo hi mx : Option AV} {l h m : Nat} {lo' hi' mx' : Option Value} (hb : bounds3 len cap lo hi mx = some (l, h, m))
    (h1 : OR P f lo lo') (h2 : OR P f hi hi') (h3 : OR P f mx mx') (hc : cap ≤ rcap) (w : World) :
    (Instr.sliceBounds isSlice len rcap lo' hi' mx').run P w = .ok (l, h, if mx.isNone then rcap else m) w ∧ l ≤ h ∧ (mx.isNone = true → m = cap) ∧ (mx.isNone = false → h ≤ m) ∧ m ≤ cap ∧ (hi.isSome = true → h ≤ m) ∧ (hi.isNone = true → h = len) := by
  unfold bounds3 at hb
  obtain ⟨m0, e1, hb⟩ := bind_some hb
  obtain ⟨h0, e2, hb⟩ := bind_some hb
  obtain ⟨l0, e3, hb⟩ := bind_some hb
  cases hb
  have key := @ble_key
  unfold Instr.sliceBounds
  cases mx with
  | none =>
    cases mx' with
    | some _ => exact h3.elim
    | none =>
      simp only at e1; cases e1
      cases lo with
      | none =>
        cases lo' with
        | some _ => exact h1.elim
        | none =>
          simp only at e3; cases e3
          cases hi with
          | none =>
            cases hi' with
            | some _ => exact h2.elim
            | none => simp only at e2; cases e2; simp
          | some z =>
            cases hi' with
            | none => exact h2.elim
            | some z' =>
              simp only at e2
              obtain ⟨g1, g2⟩ := key e2
              simp [bound_sound g1 h2 (Nat.le_trans g2 hc), g2]
      | some y =>
        cases lo' with
        | none => exact h1.elim
        | some y' =>
          simp only at e3
          obtain ⟨k1, k2⟩ := key e3
          cases hi with
          | none =>
            cases hi' with
            | some _ => exact h2.elim
            | none => simp only at e2; cases e2; simp [bound_sound k1 h1 k2, k2]
          | some z =>
            cases hi' with
            | none => exact h2.elim
            | some z' =>
              simp only at e2
              obtain ⟨g1, g2⟩ := key e2
              simp [bound_sound g1 h2 (Nat.le_trans g2 hc), bound_sound k1 h1 k2, g2, k2]
  | some x =>
    cases mx' with
    | none => exact h3.elim
    | some x' =>
      simp only at e1
      obtain ⟨j1, j2⟩ := key e1
      cases hi with
      | none => simp at e2
      | some z =>
        cases hi' with
        | none => exact h2.elim
        | some z' =>
          simp only at e2
          obtain ⟨g1, g2⟩ := key e2
          cases lo with
          | none =>
            cases lo' with
            | some _ => exact h1.elim
            | none => simp only at e3; cases e3; simp [bound_sound j1 h3 (Nat.le_trans j2 hc), bound_sound g1 h2 g2, g2, j2]
          | some y =>
            cases lo' with
            | none => exact h1.elim
            | some y' =>
              simp only at e3
              obtain ⟨k1, k2⟩ := key e3
              simp [bound_sound j1 h3 (Nat.le_trans j2 hc), bound_sound g1 h2 g2, bound_sound k1 h1 k2, g2, j2, k2]

theorem addr_add (rb p n : Nat) : (⟨rb, p, none⟩ : Addr).add n = ⟨rb, p + n, none⟩ := by
  unfold Addr.add; split <;> simp_all

theorem p_slice {et' esz : Nat} {x : AOpd} {lo hi mx : Option AOpd} (hok : ok_slice P et' esz x lo hi mx o.op = true) (ha : TR P f tm a.tmps) (hv : op_slice et' esz x lo hi mx tm σ = some (v, σ')) : PureOK P f o a v σ σ' := by
  unfold ok_slice at hok
  split at hok
  · rename_i t y l h m ho
    simp only [Bool.and_eq_true] at hok
    obtain ⟨⟨⟨⟨hx, h1⟩, h2⟩, h3⟩, hu⟩ := hok
    split at hu
    · rename_i e hu'
      simp only [Bool.and_eq_true] at hu
      obtain ⟨het, hu⟩ := hu
      have het := Nat.eq_of_beq_eq_true het
      subst het
      replace hv := bind_some hv; obtain ⟨ux, g1, hv⟩ := hv
      replace hv := bind_some hv; obtain ⟨ul, g2, hv⟩ := hv
      replace hv := bind_some hv; obtain ⟨uh, g3, hv⟩ := hv
      replace hv := bind_some hv; obtain ⟨um, g4, hv⟩ := hv
      replace hv := map_some hv; obtain ⟨r, g5, hv⟩ := hv
      cases hv
      have hc := opd_sound hx ha g1
      have kl : OR P f ul (l.map a.eval) := opdO_sound h1 ha g2
      have kh : OR P f uh (h.map a.eval) := opdO_sound h2 ha g3
      have km : OR P f um (m.map a.eval) := opdO_sound h3 ha g4
      cases ux with
      | slc b len cap et ck =>
        simp only [sliceV] at g5
        obtain ⟨⟨l0, h0, m0⟩, g6, g7⟩ := bind_some g5
        refine ⟨rfl, ?_⟩
        have hm : um.isNone = (m.map a.eval).isNone := by
          cases um <;> cases hq : m.map a.eval <;> rw [hq] at km <;> first | rfl | exact km.elim
        rcases b with _ | ⟨b, off⟩
        · -- a nil slice
          simp only [VR] at hc
          obtain ⟨rfl, rfl, hc⟩ := hc
          obtain ⟨hrun, k1, k2, k3, k4, k5, k6⟩ := bounds_sound (rcap := 0) (isSlice := true) g6 kl kh km (Nat.le_refl _) default
          have e0 : h0 = 0 := by
            cases uh with
            | none => exact k6 rfl
            | some _ => have := k5 rfl; omega
          have e1 : l0 = 0 := by omega
          have e2 : m0 = 0 := by omega
          subst e0; subst e1; subst e2
          have hvv : VR P f v (.slice none 0 0) := by
            split at g7
            · simp at g7; subst g7; simp [VR]
            · simp at g7; subst g7; simp [VR]
            · cases hq : Nat.beq et e <;> simp [hq] at g7
              subst g7; simp [VR]
            · simp at g7; subst g7; simp [VR]
          refine ⟨_, hvv, fun w => ?_⟩
          have hrun := (bounds_sound (P := P) (f := f) (rcap := 0) (isSlice := true) g6 kl kh km (Nat.le_refl _) w).1
          simp only [execOp, ho, Instr.sliceAt, Instr.slice, Sem.run_bind, run_underlying' hu', Result.andThen_ok, hc, hrun, size_of_ok hu, Sem.run_pure]
          simp
        · simp only [VR] at hc
          obtain ⟨rb, boff, rs, ad, rcap, hf, hc, hlc, hcr, hsl⟩ := hc
          have hb := fun w => bounds_sound (P := P) (f := f) (rcap := rcap) (isSlice := true) g6 kl kh km hcr w
          obtain ⟨_, k1, k2, k3, k4, k5, k6⟩ := hb default
          have hh : h0 ≤ cap := by
            cases uh with
            | none => rw [k6 rfl]; exact hlc
            | some _ => exact Nat.le_trans (k5 rfl) k4
          have hrun : ∀ w, (execOp a.eval o).run P w = .ok (.value (.slice (if (if um.isNone then rcap else m0) = l0 then some ad else some (ad.add (l0 * esz))) (h0 - l0) ((if um.isNone then rcap else m0) - l0))) w := fun w => by
            simp only [execOp, ho, Instr.sliceAt, Instr.slice, Sem.run_bind, run_underlying' hu', Result.andThen_ok, hc, (hb w).1, size_of_ok hu, Sem.run_pure]
            simp
          have hsz : ∃ i, P.info? e = some i ∧ i.size = esz := by
            unfold okSize at hu
            split at hu
            · rename_i i hi; exact ⟨i, hi, Nat.eq_of_beq_eq_true hu⟩
            · cases hu
          -- the new slice
          have fin : ∀ (M : Nat) (ck' : CK) (m1 : Nat), M ≤ rcap → h0 ≤ m1 → m1 ≤ M → (match ck' with | .exact => M = m1 | .tail => ck = .tail ∧ M = rcap ∧ et = e | .opaq => False) →
              VR P f (.slc (some (b, off + l0 * esz)) (h0 - l0) (m1 - l0) et ck') (.slice (if M = l0 then some ad else some (ad.add (l0 * esz))) (h0 - l0) (M - l0)) := by
            intro M ck' m1 hM hm1 hm2 hk
            simp only [VR]
            refine ⟨rb, boff, rs, if M = l0 then ad else ad.add (l0 * esz), M - l0, hf, by split <;> rfl, by omega, by omega, ?_, ?_⟩
            · by_cases e : M = l0
              · exact .inl (by omega)
              · rcases hsl.1 with hz | hz
                · exact .inl (by omega)
                · exact .inr (by rw [if_neg e, hz, addr_add, Nat.add_assoc])
            · cases ck' with
              | exact => show _ = _; simp only at hk; omega
              | tail =>
                obtain ⟨rfl, rfl, het2⟩ := hk
                obtain ⟨hsl1, sz, by_, he1, he2, he3⟩ := hsl
                refine ⟨sz, by_, he1, ?_, trivial⟩
                rcases he2 with he2 | he2
                · exact .inl (by omega)
                · by_cases e : M = l0
                  · exact .inl (by omega)
                  · refine .inr ?_
                    obtain ⟨i, hi1, hi2⟩ := hsz
                    simp only [einfo, het2, hi1, Option.map_some, Option.some.injEq, Prod.mk.injEq] at he1
                    have : esz = sz := by omega
                    subst this
                    rw [← he2, Nat.sub_mul]
                    have : l0 * esz ≤ M * esz := Nat.mul_le_mul_right _ (by omega)
                    omega
              | opaq => exact hk.elim
          have hM : h0 ≤ (if um.isNone then rcap else m0) ∧ (if um.isNone then rcap else m0) ≤ rcap ∧ m0 ≤ (if um.isNone then rcap else m0) ∧ h0 ≤ m0 := by
            cases um with
            | none => have := k2 rfl; simp; omega
            | some _ => have := k3 rfl; simp; omega
          split at g7
          · cases g7
            exact ⟨_, fin _ .exact m0 hM.2.1 hM.2.2.2 hM.2.2.1 (by simp), hrun⟩
          · cases g7
            have e2 := k2 rfl
            have e3 := hsl.2
            simp only at e3
            exact ⟨_, fin _ .exact m0 hM.2.1 hM.2.2.2 hM.2.2.1 (by simp; omega), hrun⟩
          · cases hq : Nat.beq et e with
            | false => simp [hq] at g7
            | true =>
              simp [hq] at g7; subst g7
              exact ⟨_, fin _ .tail m0 hM.2.1 hM.2.2.2 hM.2.2.1 ⟨rfl, by simp, Nat.eq_of_beq_eq_true hq⟩, hrun⟩
          · cases hq : Nat.beq l0 0 with
            | false => simp [hq] at g7
            | true =>
              have hl := Nat.eq_of_beq_eq_true hq
              subst hl
              simp [hq] at g7; subst g7
              refine ⟨_, ?_, hrun⟩
              simp only [VR]
              refine ⟨rb, boff, rs, if rcap = 0 then ad else ad.add (0 * esz), rcap, hf, ?_, hh, hcr, ?_⟩
              · simp; split <;> rfl
              · refine ⟨?_, trivial⟩
                rcases hsl.1 with hz | hz
                · exact .inl hz
                · exact .inr (by split; exact hz; rw [hz, addr_add]; simp)
      | _ => simp [sliceV] at g5
    · cases hu
  · cases hok

end Go.AM
/- Each operation that only reckons, further: arrays, text, parts, building, least and greatest. -/
namespace Go.AM
open Go

variable {P : Program} {f : FM} {tm : T AV} {σ σ' : AS} {a : Act} {v : AV} {o : Oper}

theorem size_info {e esz : Nat} (hu : okSize P e esz = true) : ∃ i, P.info? e = some i ∧ i.size = esz := by
  unfold okSize at hu
  split at hu
  · rename_i i hi; exact ⟨i, hi, Nat.eq_of_beq_eq_true hu⟩
  · cases hu

theorem p_sliceArr {n et esz : Nat} {x : AOpd} {lo hi mx : Option AOpd} (hok : ok_sliceArr P n et esz x lo hi mx o.op = true) (ha : TR P f tm a.tmps) (hv : op_sliceArr n et esz x lo hi mx tm σ = some (v, σ')) : PureOK P f o a v σ σ' := by
  unfold ok_sliceArr at hok
  split at hok
  · rename_i t y l h m ho
    simp only [Bool.and_eq_true] at hok
    obtain ⟨⟨⟨⟨hx, h1⟩, h2⟩, h3⟩, hu⟩ := hok
    split at hu
    · rename_i k e hu'
      simp only [Bool.and_eq_true] at hu
      obtain ⟨⟨hk, het⟩, hu⟩ := hu
      have hk := Nat.eq_of_beq_eq_true hk
      have het := Nat.eq_of_beq_eq_true het
      subst hk; subst het
      replace hv := bind_some hv; obtain ⟨ux, g1, hv⟩ := hv
      replace hv := bind_some hv; obtain ⟨ul, g2, hv⟩ := hv
      replace hv := bind_some hv; obtain ⟨uh, g3, hv⟩ := hv
      replace hv := bind_some hv; obtain ⟨um, g4, hv⟩ := hv
      have hc := opd_sound hx ha g1
      have kl := opdO_sound h1 ha g2
      have kh := opdO_sound h2 ha g3
      have km := opdO_sound h3 ha g4
      split at hv
      · rename_i b off
        obtain ⟨⟨l0, h0, m0⟩, g6, g7⟩ := map_some hv
        cases g7
        simp only [VR] at hc
        obtain ⟨rb, boff, rs, hf, hc⟩ := hc
        have hb := fun w => bounds_sound (P := P) (f := f) (rcap := k) (isSlice := false) g6 kl kh km (Nat.le_refl _) w
        obtain ⟨_, k1, k2, k3, k4, k5, k6⟩ := hb default
        have hm : (if um.isNone then k else m0) = m0 := by cases um with | none => simp; exact (k2 rfl).symm | some _ => simp
        have hh : h0 ≤ m0 := by
          cases um with
          | none => rw [k2 rfl]; cases uh with | none => rw [k6 rfl]; exact Nat.le_refl _ | some _ => rw [← k2 rfl]; exact k5 rfl
          | some _ => exact k3 rfl
        simp only [hm] at hb
        have hrun : ∀ w, (execOp a.eval o).run P w = .ok (.value (.slice (some (if m0 = l0 then ⟨rb, boff + off, none⟩ else (⟨rb, boff + off, none⟩ : Addr).add (l0 * esz))) (h0 - l0) (m0 - l0))) w := fun w => by
          simp only [execOp, ho, Instr.sliceAt, Instr.sureAddr, Sem.run_bind, run_underlying' hu', Result.andThen_ok, hc, (hb w).1, size_of_ok hu, Sem.run_pure]
        refine ⟨rfl, _, ?_, hrun⟩
        simp only [VR]
        refine ⟨rb, boff, rs, _, m0 - l0, hf, rfl, by omega, Nat.le_refl _, ?_, rfl⟩
        by_cases e : m0 = l0
        · exact .inl (by omega)
        · exact .inr (by rw [if_neg e, addr_add, Nat.add_assoc])
      · cases hv
    · cases hu
  · cases hok

theorem p_sliceStr {x : AOpd} {lo hi : Option AOpd} (hok : ok_sliceStr P x lo hi o.op = true) (ha : TR P f tm a.tmps) (hv : op_sliceStr x lo hi tm σ = some (v, σ')) : PureOK P f o a v σ σ' := by
  unfold ok_sliceStr at hok
  split at hok
  · rename_i t y l h ho
    simp only [Bool.and_eq_true] at hok
    obtain ⟨⟨⟨hx, h1⟩, h2⟩, hu⟩ := hok
    split at hu
    · rename_i hu'
      replace hv := bind_some hv; obtain ⟨ux, g1, hv⟩ := hv
      replace hv := bind_some hv; obtain ⟨ul, g2, hv⟩ := hv
      replace hv := bind_some hv; obtain ⟨uh, g3, hv⟩ := hv
      have hc := opd_sound hx ha g1
      have kl := opdO_sound h1 ha g2
      have kh := opdO_sound h2 ha g3
      split at hv
      · rename_i s
        obtain ⟨⟨l0, h0, m0⟩, g6, g7⟩ := map_some hv
        cases g7
        simp only [VR] at hc
        obtain ⟨b, hc, hbs⟩ := hc
        have hs : b.size = s.length := by rw [← hbs, List.length_map]; rfl
        rw [← hs] at g6
        have hb := fun w => bounds_sound (P := P) (f := f) (rcap := b.size) (isSlice := false) (mx' := none) g6 kl kh trivial (Nat.le_refl _) w
        refine ⟨rfl, .string (b.extract l0 h0), ?_, fun w => ?_⟩
        · simp only [VR]
          refine ⟨_, rfl, ?_⟩
          rw [← hbs]
          rw [ByteArray.data_extract, Array.toList_extract]
          simp [List.extract_eq_take_drop, List.drop_take, List.map_take, List.map_drop]
        · simp only [execOp, ho, Instr.sliceAt, Instr.slice, Sem.run_bind, run_underlying' hu', Result.andThen_ok, hc, Option.map_none, Option.isSome_none, Bool.false_eq_true, if_false, (hb w).1, Sem.run_pure]
      · cases hv
    · cases hu
  · cases hok

theorem p_fieldAddr {off : Nat} {x : AOpd} (hok : ok_fieldAddr P off x o.op = true) (ha : TR P f tm a.tmps) (hv : op_fieldAddr off x tm σ = some (v, σ')) : PureOK P f o a v σ σ' := by
  unfold ok_fieldAddr at hok
  split at hok
  · rename_i t y i ho
    simp only [Bool.and_eq_true] at hok
    obtain ⟨hx, hu⟩ := hok
    split at hu
    · rename_i fs hu'
      split at hu
      · rename_i fd hfd
        simp only [Bool.and_eq_true] at hu
        obtain ⟨hoff, hsz⟩ := hu
        have hoff := Nat.eq_of_beq_eq_true hoff
        split at hsz
        · rename_i j hj
          have hpos : 0 < j.size := by simpa [Nat.blt_eq] using hsz
          replace hv := bind_some hv; obtain ⟨ux, g1, hv⟩ := hv
          have hc := opd_sound hx ha g1
          split at hv
          · rename_i b q
            cases hv
            simp only [VR] at hc
            obtain ⟨rb, boff, rs, hf, hc⟩ := hc
            refine ⟨rfl, .pointer (some ⟨rb, boff + q + fd.offset, none⟩), ?_, fun w => ?_⟩
            rotate_left
            · simp only [execOp, ho, Instr.fieldAt, Sem.run_bind, run_underlying' hu', Result.andThen_ok, hfd, hc, Instr.sureAddr, Sem.run_pure, fieldPlace, run_sizeOf' hj, Sem.run_ite]
              rw [if_neg (by omega)]
              simp only [Sem.run_pure, Result.andThen_ok, addr_add]
            · simp only [VR]
              exact ⟨rb, boff, rs, hf, by rw [hoff, Nat.add_assoc]⟩
          · cases hv
        · cases hsz
      · cases hu
    · cases hu
  · cases hok

theorem VRs.sub {l : List AV} {r : List Value} (h : VRs P f l r) (i n : Nat) : VRs P f ((l.drop i).take n) ((r.drop i).take n) := by
  refine VRs.of_get (by simp [h.length]) (fun j x hx => ?_)
  rw [List.getElem?_take] at hx ⊢
  split at hx
  · rename_i hj
    rw [List.getElem?_drop] at hx
    obtain ⟨u, h1, h2⟩ := h.get hx
    exact ⟨u, by rw [if_pos hj, List.getElem?_drop]; exact h1, h2⟩
  · cases hx

theorem part_sound {t : Nat} {s : Sz} {c : List AV} {cs : Array Value} {off : Nat} {r : AV} (hs : okSz P t s = true) (hc : VRs P f c cs.toList)
    (h : partV s c off = some r) : ∃ rv, VR P f r rv ∧ ∀ w, (part t cs off).run P w = .ok rv w := by
  unfold partV at h
  have agg : ∀ {d : TypeDesc} {i : TypeInfo}, P.underlying t = some d → P.info? t = some i → (∀ w, (isAgg t).run P w = .ok true w) → s = some i.size → ∃ rv, VR P f r rv ∧ ∀ w, (part t cs off).run P w = .ok rv w := by
    intro d i hu hi hag e
    subst e
    simp only at h
    obtain ⟨l, h1, h2⟩ := map_some h
    subst h2
    unfold rd at h1
    cases hb : Nat.ble (off + i.size) c.length with
    | false => simp [hb] at h1
    | true =>
      simp [hb] at h1; subst h1
      refine ⟨.agg (cs.extract off (off + i.size)), ?_, fun w => ?_⟩
      · simp only [VR]
        refine ⟨_, rfl, ?_⟩
        have := hc.sub off i.size
        simpa [List.extract_eq_take_drop] using this
      · simp only [part, Sem.run_bind, hag w, Result.andThen_ok, run_sizeOf' hi, Sem.run_ite, if_true, Sem.run_pure]
  unfold okSz at hs
  split at hs
  · rename_i fs i hu hi
    exact agg hu hi (fun w => by simp [isAgg, run_underlying' hu]) (by simpa using hs)
  · rename_i n e i hu hi
    exact agg hu hi (fun w => by simp [isAgg, run_underlying' hu]) (by simpa using hs)
  · rename_i d i h1 h2 hu hi
    have e : s = none := by simpa using hs
    subst e
    simp only at h
    obtain ⟨rv, h3, h4⟩ := hc.get h
    refine ⟨rv, h4, fun w => ?_⟩
    have hag : (isAgg t).run P w = .ok false w := by
      simp only [isAgg, Sem.run_bind, run_underlying' hu, Result.andThen_ok]
      cases d <;> first | rfl | (exfalso; first | exact h1 _ hu | exact h2 _ _ hu)
    have h3' : cs[off]? = some rv := by simpa using h3
    simp [part, hag, h3']
  · cases hs

theorem p_field {off : Nat} {s : Sz} {x : AOpd} (hok : ok_field P off s x o.op = true) (ha : TR P f tm a.tmps) (hv : op_field off s x tm σ = some (v, σ')) : PureOK P f o a v σ σ' := by
  unfold ok_field at hok
  split at hok
  · rename_i t y i ho
    simp only [Bool.and_eq_true] at hok
    obtain ⟨hx, hu⟩ := hok
    split at hu
    · rename_i fs hu'
      split at hu
      · rename_i fd hfd
        simp only [Bool.and_eq_true] at hu
        obtain ⟨hoff, hsz⟩ := hu
        have hoff := Nat.eq_of_beq_eq_true hoff
        replace hv := bind_some hv; obtain ⟨ux, g1, hv⟩ := hv
        have hc := opd_sound hx ha g1
        split at hv
        · obtain ⟨r, g2, g3⟩ := map_some hv
          cases g3
          simp only [VR] at hc
          obtain ⟨cs, hc, hcs⟩ := hc
          obtain ⟨rv, h1, h2⟩ := part_sound hsz hcs g2
          refine ⟨rfl, rv, h1, fun w => ?_⟩
          simp only [execOp, ho, Instr.field, Sem.run_bind, run_underlying' hu', Result.andThen_ok, hfd, hc, asAgg, Sem.run_pure, hoff, h2]
        · cases hv
      · cases hu
    · cases hu
  · cases hok

theorem p_idxAddrS {esz : Nat} {x i : AOpd} (hok : ok_idxAddrS P esz x i o.op = true) (ha : TR P f tm a.tmps) (hv : op_idxAddrS esz x i tm σ = some (v, σ')) : PureOK P f o a v σ σ' := by
  unfold ok_idxAddrS at hok
  split at hok
  · rename_i t y j ho
    simp only [Bool.and_eq_true] at hok
    obtain ⟨⟨hx, hi⟩, hu⟩ := hok
    split at hu
    · rename_i e hu'
      replace hv := bind_some hv; obtain ⟨ux, g1, hv⟩ := hv
      replace hv := bind_some hv; obtain ⟨ui, g2, hv⟩ := hv
      replace hv := bind_some hv; obtain ⟨k, g3, hv⟩ := hv
      have hc := opd_sound hx ha g1
      obtain ⟨kd, hk⟩ := asNat_sound g3 (opd_sound hi ha g2)
      split at hv
      · rename_i b off len cap et ck
        cases hb : Nat.blt k len with
        | false => simp [hb] at hv
        | true =>
          simp [hb] at hv
          obtain ⟨rfl, rfl⟩ := hv
          have hlt : k < len := by simpa [Nat.blt_eq] using hb
          simp only [VR] at hc
          obtain ⟨rb, boff, rs, ad, rcap, hf, hc, hlc, hcr, hsl, _⟩ := hc
          have had : ad = ⟨rb, boff + off, none⟩ := by
            rcases hsl with h | h
            · omega
            · exact h
          subst had
          refine ⟨rfl, .pointer (some ⟨rb, boff + off + k * esz, none⟩), ?_, fun w => ?_⟩
          · simp only [VR]; exact ⟨rb, boff, rs, hf, by rw [Nat.add_assoc]⟩
          · simp only [execOp, ho, Instr.indexAt, hk, asIntOf, Sem.run_bind, Sem.run_pure, Result.andThen_ok, run_underlying' hu', hc]
            rw [if_pos (by omega)]
            simp [size_of_ok hu, addr_add]
      · cases hv
    · cases hu
  · cases hok

theorem p_idxAddrA {n esz : Nat} {x i : AOpd} (hok : ok_idxAddrA P n esz x i o.op = true) (ha : TR P f tm a.tmps) (hv : op_idxAddrA n esz x i tm σ = some (v, σ')) : PureOK P f o a v σ σ' := by
  unfold ok_idxAddrA at hok
  split at hok
  · rename_i t y j ho
    simp only [Bool.and_eq_true] at hok
    obtain ⟨⟨hx, hi⟩, hu⟩ := hok
    split at hu
    · rename_i m e hu'
      simp only [Bool.and_eq_true] at hu
      obtain ⟨hm, hu⟩ := hu
      have hm := Nat.eq_of_beq_eq_true hm
      subst hm
      replace hv := bind_some hv; obtain ⟨ux, g1, hv⟩ := hv
      replace hv := bind_some hv; obtain ⟨ui, g2, hv⟩ := hv
      replace hv := bind_some hv; obtain ⟨k, g3, hv⟩ := hv
      have hc := opd_sound hx ha g1
      obtain ⟨kd, hk⟩ := asNat_sound g3 (opd_sound hi ha g2)
      split at hv
      · rename_i b off
        cases hb : Nat.blt k m with
        | false => simp [hb] at hv
        | true =>
          simp [hb] at hv
          obtain ⟨rfl, rfl⟩ := hv
          have hlt : k < m := by simpa [Nat.blt_eq] using hb
          simp only [VR] at hc
          obtain ⟨rb, boff, rs, hf, hc⟩ := hc
          refine ⟨rfl, .pointer (some ⟨rb, boff + off + k * esz, none⟩), ?_, fun w => ?_⟩
          · simp only [VR]; exact ⟨rb, boff, rs, hf, by rw [Nat.add_assoc]⟩
          · simp only [execOp, ho, Instr.indexAt, hk, asIntOf, Sem.run_bind, Sem.run_pure, Result.andThen_ok, run_underlying' hu', hc, Instr.sureAddr]
            rw [if_pos (by omega)]
            simp [size_of_ok hu, addr_add]
      · cases hv
    · cases hu
  · cases hok

theorem p_idxA {n esz : Nat} {s : Sz} {x i : AOpd} (hok : ok_idxA P n esz s x i o.op = true) (ha : TR P f tm a.tmps) (hv : op_idxA n esz s x i tm σ = some (v, σ')) : PureOK P f o a v σ σ' := by
  unfold ok_idxA at hok
  split at hok
  · rename_i t y j ho
    simp only [Bool.and_eq_true] at hok
    obtain ⟨⟨hx, hi⟩, hu⟩ := hok
    split at hu
    · rename_i m e hu'
      simp only [Bool.and_eq_true] at hu
      obtain ⟨⟨hm, hu⟩, hsz⟩ := hu
      have hm := Nat.eq_of_beq_eq_true hm
      subst hm
      replace hv := bind_some hv; obtain ⟨ux, g1, hv⟩ := hv
      replace hv := bind_some hv; obtain ⟨ui, g2, hv⟩ := hv
      replace hv := bind_some hv; obtain ⟨k, g3, hv⟩ := hv
      have hc := opd_sound hx ha g1
      obtain ⟨kd, hk⟩ := asNat_sound g3 (opd_sound hi ha g2)
      split at hv
      · cases hb : Nat.blt k m with
        | false => simp [hb] at hv
        | true =>
          simp only [hb, cond_true] at hv
          obtain ⟨r, g4, g5⟩ := map_some hv
          cases g5
          have hlt : k < m := by simpa [Nat.blt_eq] using hb
          simp only [VR] at hc
          obtain ⟨cs, hc, hcs⟩ := hc
          obtain ⟨rv, h1, h2⟩ := part_sound hsz hcs g4
          refine ⟨rfl, rv, h1, fun w => ?_⟩
          simp only [execOp, ho, Instr.index, hk, asIntOf, Sem.run_bind, Sem.run_pure, Result.andThen_ok, run_underlying' hu', hc, Sem.run_ite]
          rw [if_pos (by omega)]
          simp [size_of_ok hu, h2]
      · cases hv
    · cases hu
  · cases hok

theorem p_idxStr {x i : AOpd} (hok : ok_idxStr P x i o.op = true) (ha : TR P f tm a.tmps) (hv : op_idxStr x i tm σ = some (v, σ')) : PureOK P f o a v σ σ' := by
  unfold ok_idxStr at hok
  split at hok
  · rename_i t y j ho
    simp only [Bool.and_eq_true] at hok
    obtain ⟨⟨hx, hi⟩, hu⟩ := hok
    split at hu
    · rename_i hu'
      replace hv := bind_some hv; obtain ⟨ux, g1, hv⟩ := hv
      replace hv := bind_some hv; obtain ⟨ui, g2, hv⟩ := hv
      replace hv := bind_some hv; obtain ⟨k, g3, hv⟩ := hv
      have hc := opd_sound hx ha g1
      obtain ⟨kd, hk⟩ := asNat_sound g3 (opd_sound hi ha g2)
      split at hv
      · obtain ⟨r, g4, g5⟩ := map_some hv
        cases g5
        simp only [VR] at hc
        obtain ⟨b, hc, hbs⟩ := hc
        rw [← hbs, List.getElem?_map] at g4
        obtain ⟨u, g5, g6⟩ := map_some g4
        subst g6
        refine ⟨rfl, _, rfl, fun w => ?_⟩
        have hlt : k < b.size := by
          have := (List.getElem?_eq_some_iff.1 g5).1
          simpa using this
        have hget : b[k]? = some u := by
          obtain ⟨h1, h2⟩ := List.getElem?_eq_some_iff.1 g5
          rw [getElem?_pos b k hlt]
          exact congrArg some h2
        simp only [execOp, ho, Instr.index, hk, asIntOf, Sem.run_bind, Sem.run_pure, Result.andThen_ok, run_underlying' hu', hc]
        simp [hget]
      · cases hv
    · cases hu
  · cases hok

end Go.AM
/- Each operation that only reckons, the last: least and greatest, building, equality of structs and arrays. And all of them together. -/
namespace Go.AM
open Go

variable {P : Program} {f : FM} {tm : T AV} {σ σ' : AS} {a : Act} {v : AV} {o : Oper}

theorem VRs.cons_inv {x : AV} {l : List AV} {r : List Value} (h : VRs P f (x :: l) r) : ∃ y r', r = y :: r' ∧ VR P f x y ∧ VRs P f l r' := by
  simpa only [VRs] using h

theorem min2_sound {x y z : AV} (h : minV x y = some z) {p q : Value} (hp : VR P f x p) (hq : VR P f y q) : ∃ r, VR P f z r ∧ ∀ w, (Builtin.min2 p q).run P w = .ok r w := by
  unfold minV at h
  split at h
  · rename_i k a k' b
    cases hk : kEq k k' with
    | false => simp [hk] at h
    | true =>
      simp [hk] at h; subst h
      simp only [VR] at hp hq
      refine ⟨.int k (if b < a then b else a), ?_, fun w => by rw [hp, hq]; rfl⟩
      simp only [VR]
      by_cases e : b < a <;> simp [e]
  · cases h
theorem max2_sound {x y z : AV} (h : maxV x y = some z) {p q : Value} (hp : VR P f x p) (hq : VR P f y q) : ∃ r, VR P f z r ∧ ∀ w, (Builtin.max2 p q).run P w = .ok r w := by
  unfold maxV at h
  split at h
  · rename_i k a k' b
    cases hk : kEq k k' with
    | false => simp [hk] at h
    | true =>
      simp [hk] at h; subst h
      simp only [VR] at hp hq
      refine ⟨.int k (if a < b then b else a), ?_, fun w => by rw [hp, hq]; rfl⟩
      simp only [VR]
      by_cases e : a < b <;> simp [e]
  · cases h
theorem fold_sound {g : AV → AV → Option AV} {m2 : Value → Value → Sem Value} (hg : ∀ {x y z : AV}, g x y = some z → ∀ {p q : Value}, VR P f x p → VR P f y q → ∃ r, VR P f z r ∧ ∀ w, (m2 p q).run P w = .ok r w) :
    ∀ {l : List AV} {x z : AV} {r : List Value} {p : Value}, foldV g x l = some z → VR P f x p → VRs P f l r → ∃ q, VR P f z q ∧ ∀ w, (r.foldlM m2 p).run P w = .ok q w
  | [], x, z, r, p, h, hp, hr => by
    simp [foldV] at h; subst h
    simp only [VRs] at hr; subst hr
    exact ⟨p, hp, fun w => rfl⟩
  | y :: l, x, z, r, p, h, hp, hr => by
    obtain ⟨q, r', rfl, h1, h2⟩ := hr.cons_inv
    simp only [foldV] at h
    obtain ⟨u, h3, h4⟩ := bind_some h
    obtain ⟨s, h5, h6⟩ := hg h3 hp h1
    obtain ⟨t, h7, h8⟩ := fold_sound (@hg) h4 h5 h2
    exact ⟨t, h7, fun w => by simp only [List.foldlM_cons, Sem.run_bind, h6, Result.andThen_ok, h8]⟩

theorem p_min {xs : List AOpd} (hok : ok_min xs o.op = true) (ha : TR P f tm a.tmps) (hv : op_min xs tm σ = some (v, σ')) : PureOK P f o a v σ σ' := by
  unfold ok_min at hok
  split at hok
  · rename_i args at_ ho
    obtain ⟨us, h1, h2⟩ := bind_some hv
    have hs := opds_sound hok ha h1
    split at h2
    · rename_i x r
      obtain ⟨z, h3, h4⟩ := map_some h2
      cases h4
      obtain ⟨p, r', he, h5, h6⟩ := hs.cons_inv
      obtain ⟨q, h7, h8⟩ := fold_sound (@min2_sound P f) h3 h5 h6
      refine ⟨rfl, q, h7, fun w => ?_⟩
      have he' : (Array.map a.eval args).toList = p :: r' := by simpa using he
      simp only [execOp, ho, resolve, invoke, builtin, Sem.run_bind, Sem.run_pure, Result.andThen_ok, Builtin.min_, he', h8]
    · cases h2
  · cases hok
theorem p_max {xs : List AOpd} (hok : ok_max xs o.op = true) (ha : TR P f tm a.tmps) (hv : op_max xs tm σ = some (v, σ')) : PureOK P f o a v σ σ' := by
  unfold ok_max at hok
  split at hok
  · rename_i args at_ ho
    obtain ⟨us, h1, h2⟩ := bind_some hv
    have hs := opds_sound hok ha h1
    split at h2
    · rename_i x r
      obtain ⟨z, h3, h4⟩ := map_some h2
      cases h4
      obtain ⟨p, r', he, h5, h6⟩ := hs.cons_inv
      obtain ⟨q, h7, h8⟩ := fold_sound (@max2_sound P f) h3 h5 h6
      refine ⟨rfl, q, h7, fun w => ?_⟩
      have he' : (Array.map a.eval args).toList = p :: r' := by simpa using he
      simp only [execOp, ho, resolve, invoke, builtin, Sem.run_bind, Sem.run_pure, Result.andThen_ok, Builtin.max_, he', h8]
    · cases h2
  · cases hok

/-- So many cells laid one by one. -/
theorem foldSet (off : Nat) : ∀ (vs : List Value) (k : Nat) (cs : Array Value),
    (((vs.zipIdx k).foldl (fun cs (x : Value × Nat) => cs.setIfInBounds (off + x.2) x.1) cs).size = cs.size) ∧
    ∀ i, ((vs.zipIdx k).foldl (fun cs (x : Value × Nat) => cs.setIfInBounds (off + x.2) x.1) cs)[i]? = if off + k ≤ i ∧ i < off + k + vs.length ∧ i < cs.size then vs[i - off - k]? else cs[i]?
  | [], k, cs => by
    refine ⟨by simp, fun i => ?_⟩
    rw [if_neg (by simp; omega)]
    simp
  | v :: vs, k, cs => by
    obtain ⟨h1, h2⟩ := foldSet off vs (k + 1) (cs.setIfInBounds (off + k) v)
    simp only [List.zipIdx_cons, List.foldl_cons]
    refine ⟨by rw [h1]; simp, fun i => ?_⟩
    rw [h2]
    simp only [Array.size_setIfInBounds, List.length_cons]
    by_cases e : i = off + k
    · subst e
      rw [if_neg (by omega)]
      by_cases hs : off + k < cs.size
      · rw [if_pos (by omega)]
        simp [hs, show off + k - off - k = 0 by omega]
      · rw [if_neg (by omega)]
        simp [hs]
    · by_cases hc : off + (k + 1) ≤ i ∧ i < off + (k + 1) + vs.length ∧ i < cs.size
      · rw [if_pos hc, if_pos (by omega)]
        rw [show i - off - k = (i - off - (k + 1)) + 1 by omega]
        simp
      · rw [if_neg hc, if_neg (by omega)]
        rw [Array.getElem?_setIfInBounds_ne (by omega)]

theorem wr_get (c : List AV) (o : Nat) (vs : List AV) (h : o + vs.length ≤ c.length) (i : Nat) : (wr c o vs)[i]? = if o ≤ i ∧ i < o + vs.length then vs[i - o]? else c[i]? := by
  unfold wr
  rw [List.getElem?_append]
  simp only [List.length_take, Nat.min_eq_left (show o ≤ c.length by omega)]
  by_cases h1 : i < o
  · rw [if_pos h1, if_neg (by omega), List.getElem?_take, if_pos h1]
  · rw [if_neg h1, List.getElem?_append]
    by_cases h2 : i - o < vs.length
    · rw [if_pos h2, if_pos (by omega)]
    · rw [if_neg h2, if_neg (by omega), List.getElem?_drop]
      congr 1; omega
theorem wr_length (c : List AV) (o : Nat) (vs : List AV) (h : o + vs.length ≤ c.length) : (wr c o vs).length = c.length := by
  unfold wr
  simp only [List.length_append, List.length_take, List.length_drop]
  omega

theorem VRs.wr {c : List AV} {cs : Array Value} (hc : VRs P f c cs.toList) {o : Nat} {vs : List AV} {rs : List Value} (hv : VRs P f vs rs) (h : o + vs.length ≤ c.length) :
    VRs P f (AM.wr c o vs) ((rs.zipIdx 0).foldl (fun cs (x : Value × Nat) => cs.setIfInBounds (o + x.2) x.1) cs).toList := by
  obtain ⟨h1, h2⟩ := foldSet o rs 0 cs
  have hl : cs.size = c.length := by simpa using hc.length
  refine VRs.of_get (by rw [wr_length c o vs h]; simp [h1, hl]) (fun i x hx => ?_)
  rw [wr_get c o vs h] at hx
  have h2 := h2 i
  rw [hv.length, hl] at h2
  split at hx
  · rename_i hi
    obtain ⟨u, h3, h4⟩ := hv.get hx
    rw [if_pos (by omega)] at h2
    exact ⟨u, by simpa [h2] using h3, h4⟩
  · rename_i hi
    obtain ⟨u, h3, h4⟩ := hc.get hx
    rw [if_neg (by omega)] at h2
    exact ⟨u, by simpa [h2] using h3, h4⟩

theorem fill_step {place : Nat → Option (Nat × Nat)} {cells : Array Value} {i off size : Nat} {u : Value} {rest : List (Nat × Value)} (hp : place i = some (off, size)) (h1 : u.cells.size = size) (h2 : off + size ≤ cells.size) :
    Instr.fill place cells ((i, u) :: rest) = Instr.fill place ((u.cells.toList.zipIdx 0).foldl (fun cs (x : Value × Nat) => cs.setIfInBounds (off + x.2) x.1) cells) rest := by
  rw [Instr.fill, hp]
  dsimp only
  rw [if_neg (by simp; omega)]
  congr 1
  rw [← Array.foldl_toList]
  simp

/-- The parts of a composite value. -/
theorem fill_sound {place : Nat → Option (Nat × Nat)} : ∀ {ps : List (Nat × Nat × AOpd)} {qs : List (Nat × Operand)} {us : List (Nat × Nat × AV)} {c r : List AV} {cs : Array Value},
    (∀ (k : Nat) x y, ps[k]? = some x → qs[k]? = some y → place y.1 = some (x.1, x.2.1) ∧ okO x.2.2 y.2 = true) → ps.length = qs.length → TR P f tm a.tmps → partsOf ps tm = some us → fillP c us = some r → VRs P f c cs.toList →
    ∃ rs, Instr.fill place cs (qs.map fun (i, x) => (i, a.eval x)) = some rs ∧ VRs P f r rs.toList
  | [], [], us, c, r, cs, _, _, _, h2, h3, h4 => by
    simp [partsOf] at h2; subst h2
    simp [fillP] at h3; subst h3
    exact ⟨cs, rfl, h4⟩
  | [], _ :: _, _, _, _, _, _, h, _, _, _, _ => by simp at h
  | _ :: _, [], _, _, _, _, _, h, _, _, _, _ => by simp at h
  | (o, n, x) :: ps, (i, y) :: qs, us, c, r, cs, hk, hl, ha, h2, h3, h4 => by
    simp only [partsOf] at h2
    obtain ⟨u, g1, h2⟩ := bind_some h2
    obtain ⟨us', g2, h2⟩ := bind_some h2
    cases h2
    simp only [fillP] at h3
    cases hb : (Nat.beq u.cells.length n && Nat.ble (o + n) c.length && u.cells.all AV.scalar) with
    | false => simp [hb] at h3
    | true =>
      simp only [hb, cond_true] at h3
      simp only [Bool.and_eq_true] at hb
      have e1 := Nat.eq_of_beq_eq_true hb.1.1
      have e2 := Nat.le_of_ble_eq_true hb.1.2
      obtain ⟨k1, k2⟩ := hk 0 _ _ rfl rfl
      have k1 : place i = some (o, n) := k1
      have k2 : okO x y = true := k2
      have hu := opd_sound k2 ha g1
      have hcl := hu.cells.length
      have hsz : (a.eval y).cells.size = n := by rw [← e1, ← hcl]; simp
      have hcs : cs.size = c.length := by simpa using h4.length
      obtain ⟨rs, g3, g4⟩ := fill_sound (fun k x' y' hx hy => hk (k + 1) x' y' (by simpa using hx) (by simpa using hy)) (by simpa using hl) ha g2 h3 (VRs.wr h4 hu.cells (by omega))
      refine ⟨rs, ?_, g4⟩
      rw [List.map_cons]
      dsimp only
      rw [fill_step k1 hsz (by omega)]
      exact g3

theorem okPartsA_get {size : Nat} : ∀ {ps : List (Nat × Nat × AOpd)} {qs : List (Nat × Operand)}, okPartsA size ps qs = true → ps.length = qs.length ∧
    ∀ (k : Nat) x y, ps[k]? = some x → qs[k]? = some y → (y.1 * size = x.1 ∧ size = x.2.1) ∧ okO x.2.2 y.2 = true
  | [], [], _ => by simp
  | [], _ :: _, h => by simp [okPartsA] at h
  | _ :: _, [], h => by simp [okPartsA] at h
  | (o, n, x) :: ps, (i, y) :: qs, h => by
    simp only [okPartsA, Bool.and_eq_true] at h
    obtain ⟨⟨⟨h1, h2⟩, h3⟩, h4⟩ := h
    obtain ⟨g1, g2⟩ := okPartsA_get h4
    refine ⟨by simp [g1], fun k x' y' hx hy => ?_⟩
    cases k with
    | zero => simp at hx hy; subst hx; subst hy; exact ⟨⟨Nat.eq_of_beq_eq_true h1, Nat.eq_of_beq_eq_true h2⟩, h3⟩
    | succ k => exact g2 k x' y' (by simpa using hx) (by simpa using hy)
theorem okPartsS_get {fields : Array Field} : ∀ {ps : List (Nat × Nat × AOpd)} {qs : List (Nat × Operand)}, okPartsS P fields ps qs = true → ps.length = qs.length ∧
    ∀ (k : Nat) x y, ps[k]? = some x → qs[k]? = some y → (∃ fd, fields[y.1]? = some fd ∧ fd.offset = x.1 ∧ okSize P fd.type x.2.1 = true) ∧ okO x.2.2 y.2 = true
  | [], [], _ => by simp
  | [], _ :: _, h => by simp [okPartsS] at h
  | _ :: _, [], h => by simp [okPartsS] at h
  | (o, n, x) :: ps, (i, y) :: qs, h => by
    simp only [okPartsS, Bool.and_eq_true] at h
    obtain ⟨⟨h1, h3⟩, h4⟩ := h
    obtain ⟨g1, g2⟩ := okPartsS_get h4
    refine ⟨by simp [g1], fun k x' y' hx hy => ?_⟩
    cases k with
    | zero =>
      simp at hx hy; subst hx; subst hy
      refine ⟨?_, h3⟩
      split at h1
      · rename_i fd hfd
        simp only [Bool.and_eq_true] at h1
        exact ⟨fd, hfd, Nat.eq_of_beq_eq_true h1.1, h1.2⟩
      · cases h1
    | succ k => exact g2 k x' y' (by simpa using hx) (by simpa using hy)

theorem zero_sound {t : Nat} {zero : List AV} (h : okZero P t zero = true) : ∃ i z, P.info? t = some i ∧ i.zero = some z ∧ (∀ f, VRs P f zero z.cells.toList) ∧ zero.all AV.scalar = true ∧ zero.length = i.size ∧ ∀ w, (zeroValue t).run P w = .ok z w := by
  unfold okZero at h
  split at h
  · rename_i i hi
    split at h
    · rename_i z hz
      simp only [Bool.and_eq_true] at h
      exact ⟨i, z, hi, hz, fun f => okVs.vr _ _ h.1.1, h.1.2, Nat.eq_of_beq_eq_true h.2, fun w => by simp [zeroValue, run_typeInfo' hi, hz]⟩
    · cases h
  · cases h

def placesOf (P : Program) (fields : Array Field) : Array (Nat × Nat) := fields.map fun fd => (fd.offset, sizeT P fd.type)
theorem run_places {fields : Array Field} (h : okFieldsSized P fields = true) (w : World) : (fields.mapM fun f => (do pure (f.offset, ← sizeOf f.type) : Sem (Nat × Nat))).run P w = .ok (placesOf P fields) w := by
  have key : ∀ (l : List Field), l.all (fun fd => (P.info? fd.type).isSome) = true → (l.mapM fun f => (do pure (f.offset, ← sizeOf f.type) : Sem (Nat × Nat))).run P w = .ok (l.map fun fd => (fd.offset, sizeT P fd.type)) w := by
    intro l
    induction l with
    | nil => intro _; rfl
    | cons g l ih =>
      intro hl
      simp only [List.all_cons, Bool.and_eq_true] at hl
      obtain ⟨j, hj⟩ := Option.isSome_iff_exists.1 hl.1
      have e : sizeT P g.type = j.size := by simp [sizeT, hj]
      simp only [List.mapM_cons, Sem.run_bind, run_sizeOf' hj, Result.andThen_ok, Sem.run_pure, ih hl.2, List.map_cons, e]
  rw [Array.mapM_eq_mapM_toList]
  rw [Sem.run_map, key fields.toList h]
  simp only [Result.andThen_ok, placesOf]
  rw [← List.map_toArray]
theorem placesOf_get {fields : Array Field} {i : Nat} {fd : Field} (h : fields[i]? = some fd) {n : Nat} (hn : okSize P fd.type n = true) : (placesOf P fields)[i]? = some (fd.offset, n) := by
  obtain ⟨j, e1, e2⟩ := size_info hn
  simp [placesOf, h, sizeT, e1, e2]

theorem p_build {zero : List AV} {ps : List (Nat × Nat × AOpd)} (hok : ok_build P zero ps o.op = true) (ha : TR P f tm a.tmps) (hv : op_build zero ps tm σ = some (v, σ')) : PureOK P f o a v σ σ' := by
  unfold ok_build at hok
  split at hok
  · rename_i t qs ho
    simp only [Bool.and_eq_true] at hok
    obtain ⟨hz, hu⟩ := hok
    obtain ⟨i, z, hi, hz1, hz2, hz3, hz4, hzr⟩ := zero_sound hz
    obtain ⟨us, g1, hv⟩ := bind_some hv
    obtain ⟨r, g2, g3⟩ := map_some hv
    cases g3
    refine ⟨rfl, ?_⟩
    split at hu
    · rename_i fields hu'
      simp only [Bool.and_eq_true] at hu
      obtain ⟨hl, hk⟩ := okPartsS_get hu.2
      obtain ⟨rs, e3, e4⟩ := fill_sound (place := ((placesOf P fields)[·]?)) (fun k x y hx hy => by
          obtain ⟨⟨fd, k1, k2, k3⟩, k4⟩ := hk k x y hx hy
          exact ⟨by rw [placesOf_get k1 k3, k2], k4⟩) hl ha g1 g2 (hz2 f)
      refine ⟨.agg rs, by simp only [VR]; exact ⟨_, rfl, e4⟩, fun w => ?_⟩
      have e3' : Instr.fill ((placesOf P fields)[·]?) z.cells (Array.map (fun x : Nat × Operand => (x.1, a.eval x.2)) qs).toList = some rs := by simpa using e3
      simp only [execOp, ho, Instr.build, Sem.run_bind, hzr, Result.andThen_ok, run_underlying' hu', run_places hu.1, e3', Sem.run_pure]
    · rename_i n e hu'
      split at hu
      · rename_i j hj
        obtain ⟨hl, hk⟩ := okPartsA_get hu
        obtain ⟨rs, e3, e4⟩ := fill_sound (place := fun i => some (i * j.size, j.size)) (fun k x y hx hy => by
            obtain ⟨⟨k1, k2⟩, k4⟩ := hk k x y hx hy
            exact ⟨by rw [k1, k2], k4⟩) hl ha g1 g2 (hz2 f)
        refine ⟨.agg rs, by simp only [VR]; exact ⟨_, rfl, e4⟩, fun w => ?_⟩
        have e3' : Instr.fill (fun i => some (i * j.size, j.size)) z.cells (Array.map (fun x : Nat × Operand => (x.1, a.eval x.2)) qs).toList = some rs := by simpa using e3
        simp only [execOp, ho, Instr.build, Sem.run_bind, hzr, Result.andThen_ok, run_underlying' hu', run_sizeOf' hj, e3', Sem.run_pure]
      · cases hu
    · cases hu
  · cases hok

/-- Equality of lists of whole numbers. -/
theorem sameKinds_len : ∀ {x y : List AV}, sameKinds x y = true → x.length = y.length
  | [], [], _ => rfl
  | [], y :: _, h => by cases y <;> simp [sameKinds] at h
  | x :: _, [], h => by cases x <;> simp [sameKinds] at h
  | x :: l, y :: r, h => by
    cases x <;> cases y <;> simp [sameKinds] at h
    simp [sameKinds_len h.2]
theorem sameKinds_get : ∀ {x y : List AV} {i : Nat}, sameKinds x y = true → i < x.length → ∃ k a b, x[i]? = some (.int k a) ∧ y[i]? = some (.int k b)
  | [], _, _, _, h => by simp at h
  | x :: _, [], _, h, _ => by cases x <;> simp [sameKinds] at h
  | x :: l, y :: r, i, h, hi => by
    cases x <;> cases y <;> simp [sameKinds] at h
    rename_i k a k' b
    have e := kEq_iff.1 h.1; subst e
    cases i with
    | zero => exact ⟨k, a, b, rfl, rfl⟩
    | succ i => simpa using sameKinds_get (i := i) h.2 (by simpa using hi)
theorem okIntFields_cons {fd : Field} {r : List Field} {i : Nat} (h : okIntFields P (fd :: r) i = true) : (fd.name ≠ "_" ∧ ∃ k, P.underlying fd.type = some (.int k)) ∧ fd.offset = i ∧ okIntFields P r (i + 1) = true := by
  simp only [okIntFields, Bool.and_eq_true] at h
  refine ⟨?_, Nat.eq_of_beq_eq_true h.1.2, h.2⟩
  unfold okIntField at h
  simp only [Bool.and_eq_true, decide_eq_true_eq] at h
  refine ⟨h.1.1.1, ?_⟩
  have h2 := h.1.1.2
  split at h2
  · rename_i k hk; exact ⟨k, hk⟩
  · cases h2
theorem run_part_int {t : Nat} {k : IntKind} (hu : P.underlying t = some (.int k)) {cs : Array Value} {i : Nat} {x : Value} (hx : cs[i]? = some x) (w : World) : (part t cs i).run P w = .ok x w := by
  simp [part, isAgg, run_underlying' hu, hx]
theorem equalIn_int (d : Nat) {t : Nat} {k : IntKind} (hu : P.underlying t = some (.int k)) (j : IntKind) (x y : Int) (w : World) : (Op.equalIn (d + 1) t (.int j x) (.int j y)).run P w = .ok (x == y) w := by
  simp only [Op.equalIn, Sem.run_bind, run_underlying' hu, Result.andThen_ok, if_true, Sem.run_pure]
theorem VRs_int {l : List AV} {r : List Value} (h : VRs P f l r) {i : Nat} {k : IntKind} {x : Int} (hx : l[i]? = some (.int k x)) : r[i]? = some (.int k x) := by
  obtain ⟨u, h1, h2⟩ := h.get hx
  simp only [VR] at h2
  rw [h1, h2]

/-- The fields of a struct of whole numbers, from one on. -/
theorem eqFields_sound {p q : List AV} {cp cq : Array Value} (hk : sameKinds p q = true) (hp : VRs P f p cp.toList) (hq : VRs P f q cq.toList) (d : Nat) : ∀ (fs : List Field) (i : Nat) (t : Bool), okIntFields P fs i = true → i + fs.length = p.length → intsEq (p.drop i) (q.drop i) = some t → ∀ w,
    (Op.eqFields (d + 1) cp cq fs).run P w = .ok t w
  | [], i, t, _, hl, h, w => by
    have h1 : p.drop i = [] := by simp at hl; simp [hl]
    have h2 : q.drop i = [] := by have := sameKinds_len hk; simp at hl; simp [← this, hl]
    rw [h1, h2] at h
    simp [intsEq] at h; subst h
    rfl
  | fd :: fs, i, t, ho, hl, h, w => by
    obtain ⟨⟨h1, k, hu⟩, h2, h3⟩ := okIntFields_cons ho
    have hi : i < p.length := by simp at hl; omega
    obtain ⟨j, x, y, hx, hy⟩ := sameKinds_get hk hi
    have hiq : i < q.length := by rw [← sameKinds_len hk]; exact hi
    have ep : p.drop i = .int j x :: p.drop (i + 1) := by
      rw [List.drop_eq_getElem_cons hi]
      rw [List.getElem?_eq_getElem hi] at hx
      cases hx' : p[i] <;> simp_all
    have eq_ : q.drop i = .int j y :: q.drop (i + 1) := by
      rw [List.drop_eq_getElem_cons hiq]
      rw [List.getElem?_eq_getElem hiq] at hy
      cases hy' : q[i] <;> simp_all
    rw [ep, eq_] at h
    have hkk : kEq j j = true := kEq_iff.2 rfl
    simp only [intsEq, hkk, cond_true] at h
    have hcx : cp[i]? = some (.int j x) := by simpa using VRs_int hp hx
    have hcy : cq[i]? = some (.int j y) := by simpa using VRs_int hq hy
    simp only [Op.eqFields, if_pos h1, Sem.run_bind, h2, run_part_int hu hcx, run_part_int hu hcy, Result.andThen_ok, equalIn_int d hu]
    by_cases e : x = y
    · subst e
      simp at h
      simp only [beq_self_eq_true, Bool.not_true, Bool.false_eq_true, if_false]
      exact eqFields_sound hk hp hq d fs (i + 1) t h3 (by simp at hl; omega) h w
    · simp [e] at h; subst h
      have : (x == y) = false := by simpa using e
      simp only [this, Bool.not_false, if_true, Sem.run_pure]

/-- An array of whole numbers. -/
theorem eqArr_sound {p q : List AV} {cp cq : Array Value} (hk : sameKinds p q = true) (hp : VRs P f p cp.toList) (hq : VRs P f q cq.toList) (d : Nat) {e : Nat} {k : IntKind} (hu : P.underlying e = some (.int k)) {ty : Nat} {m : Nat} (ht : P.underlying ty = some (.array m e))
    {inf : TypeInfo} (hi : P.info? e = some inf) (hs : inf.size = 1) (hm : m = p.length) {t : Bool} (h : intsEq p q = some t) (w : World) : (Op.equalIn (d + 2) ty (.agg cp) (.agg cq)).run P w = .ok t w := by
  have key : ∀ (n i : Nat) (t : Bool), i + n = p.length → intsEq (p.drop i) (q.drop i) = some t → ∀ w, ∃ s : Option Bool × Unit,
      (forIn (List.range' i n) ((none, ()) : Option Bool × Unit) fun i _ => (do
          let x ← part e cp (i * 1)
          let y ← part e cq (i * 1)
          let z ← Op.equalIn (d + 1) e x y
          if (!z) = true then pure (.done (some false, ())) else pure (.yield (none, ())) : Sem (ForInStep (Option Bool × Unit)))).run P w = .ok s w ∧ s.1.getD true = t := by
    intro n
    induction n with
    | zero =>
      intro i t hl h w
      have h1 : p.drop i = [] := by simp at hl; simp [hl]
      have h2 : q.drop i = [] := by have := sameKinds_len hk; simp at hl; simp [← this, hl]
      rw [h1, h2] at h
      simp [intsEq] at h; subst h
      exact ⟨(none, ()), rfl, rfl⟩
    | succ n ih =>
      intro i t hl h w
      have hi : i < p.length := by omega
      obtain ⟨j, x, y, hx, hy⟩ := sameKinds_get hk hi
      have hiq : i < q.length := by rw [← sameKinds_len hk]; exact hi
      have ep : p.drop i = .int j x :: p.drop (i + 1) := by
        rw [List.drop_eq_getElem_cons hi]
        rw [List.getElem?_eq_getElem hi] at hx
        cases hx' : p[i] <;> simp_all
      have eq_ : q.drop i = .int j y :: q.drop (i + 1) := by
        rw [List.drop_eq_getElem_cons hiq]
        rw [List.getElem?_eq_getElem hiq] at hy
        cases hy' : q[i] <;> simp_all
      rw [ep, eq_] at h
      have hkk : kEq j j = true := kEq_iff.2 rfl
      simp only [intsEq, hkk, cond_true] at h
      have hcx : cp[i]? = some (.int j x) := by simpa using VRs_int hp hx
      have hcy : cq[i]? = some (.int j y) := by simpa using VRs_int hq hy
      rw [List.range'_succ, List.forIn_cons]
      simp only [Sem.run_bind, Nat.mul_one, run_part_int hu hcx, run_part_int hu hcy, Result.andThen_ok, equalIn_int d hu]
      by_cases e : x = y
      · subst e
        simp at h
        obtain ⟨s, h1, h2⟩ := ih (i + 1) t (by omega) h w
        refine ⟨s, ?_, h2⟩
        simp only [Nat.mul_one] at h1
        simpa using h1
      · simp [e] at h; subst h
        have : (x == y) = false := by simpa using e
        exact ⟨(some false, ()), by simp [this], rfl⟩
  obtain ⟨s, h1, h2⟩ := key m 0 t (by omega) (by simpa using h) w
  rw [Op.equalIn]
  simp only [Sem.run_bind, run_underlying' ht, Result.andThen_ok, run_sizeOf' hi, hs]
  rw [Std.Legacy.Range.forIn_eq_forIn_range']
  have e0 : Std.Legacy.Range.size [:m] = m := by simp [Std.Legacy.Range.size]
  rw [e0]
  have e1 := h1
  rw [show ((forIn (List.range' 0 m) ((none, ()) : Option Bool × Unit) fun i _ => (do
          let x ← part e cp (i * 1)
          let y ← part e cq (i * 1)
          let z ← Op.equalIn (d + 1) e x y
          if (!z) = true then pure (.done (some false, ())) else pure (.yield (none, ())) : Sem (ForInStep (Option Bool × Unit)))).run P w) = _ from h1]
  obtain ⟨r, u⟩ := s
  cases r <;> simp at h2 <;> subst h2 <;> rfl

theorem equal_sound {p q : List AV} {cp cq : Array Value} (hk : sameKinds p q = true) (hp : VRs P f p cp.toList) (hq : VRs P f q cq.toList) {ty n : Nat} (ht : okFlat P ty n = true) (hn : p.length = n) {t : Bool} (h : intsEq p q = some t) (w : World) :
    (Op.equal ty (.agg cp) (.agg cq)).run P w = .ok t w := by
  show (Op.equalIn (9998 + 2) ty (.agg cp) (.agg cq)).run P w = .ok t w
  unfold okFlat at ht
  split at ht
  · rename_i fs hu
    simp only [Bool.and_eq_true, Bool.not_eq_true'] at ht
    obtain ⟨⟨h1, h2⟩, h3⟩ := ht
    have h3 := Nat.eq_of_beq_eq_true h3
    have hf : P.fieldsOf ty = fs := by simp [Program.fieldsOf, hu]
    rw [run_equalIn_struct w (9998 + 1) ty cp cq (by rw [hf]; exact hu) h1, hf]
    exact eqFields_sound hk hp hq 9998 fs.toList 0 t h2 (by simp; omega) (by simpa using h) w
  · rename_i m e hu
    simp only [Bool.and_eq_true] at ht
    obtain ⟨h1, h2⟩ := ht
    have h1 := Nat.eq_of_beq_eq_true h1
    split at h2
    · rename_i k i hk' hi
      exact eqArr_sound hk hp hq 9998 hk' hu hi (Nat.eq_of_beq_eq_true h2) (by omega) h w
    · cases h2
  · cases ht

theorem p_eqAgg {n : Nat} {neg : Bool} {x y : AOpd} (hok : ok_eqAgg P n neg x y o.op = true) (ha : TR P f tm a.tmps) (hv : op_eqAgg n neg x y tm σ = some (v, σ')) : PureOK P f o a v σ σ' := by
  unfold ok_eqAgg at hok
  split at hok
  · rename_i op t p q ty ho
    simp only [Bool.and_eq_true, Bool.not_eq_true'] at hok
    obtain ⟨⟨⟨⟨hop, hx⟩, hy⟩, hfl⟩, hg⟩ := hok
    obtain ⟨u1, h1, h2⟩ := bind_some hv
    obtain ⟨u2, h3, h4⟩ := bind_some h2
    have hp := opd_sound hx ha h1
    have hq := opd_sound hy ha h3
    clear h2 hv
    split at h4
    · rename_i b1 b2
      cases hb : (sameKinds b1 b2 && Nat.beq b1.length n) with
      | false => simp [hb] at h4
      | true =>
        simp only [hb, cond_true] at h4
        simp only [Bool.and_eq_true] at hb
        obtain ⟨r, h5, h6⟩ := map_some h4
        cases h6
        simp only [VR] at hp hq
        obtain ⟨cp, hp, hcp⟩ := hp
        obtain ⟨cq, hq, hcq⟩ := hq
        refine ⟨rfl, .bool (xor neg r), by simp [VR], fun w => run_eq_of hop ho ?_ ?_ ?_ ?_⟩
        · rw [hp, hq]
          unfold eqGuard
          cases op <;> first | rfl | simp [hg]
        · rw [hp, hq]; rfl
        · rw [hp, hq]; rfl
        · rw [hp, hq]; exact equal_sound hb.1 hcp hcq hfl (Nat.eq_of_beq_eq_true hb.2) h5 w
    · cases h4
  · cases hok

/-- ALL THAT ONLY RECKONS. -/
theorem pure_sound {ao : AOp} (hc : cls ao = 0) (hok : okOp P ao o.op = true) (ha : TR P f tm a.tmps) (hv : opV ao tm σ = some (v, σ')) : PureOK P f o a v σ σ' := by
  cases ao <;> first | (simp [cls] at hc; done) | skip
  case mv => exact p_mv hok ha hv
  case pick => exact p_pick hok ha hv
  case build => exact p_build hok ha hv
  case nilCheck => exact p_nilCheck hok ha hv
  case bin => exact p_bin hok ha hv
  case eqAgg => exact p_eqAgg hok ha hv
  case eqB => exact p_eqB hok ha hv
  case eqNilS => exact p_eqNilS hok ha hv
  case eqNilP => exact p_eqNilP hok ha hv
  case not => exact p_not hok ha hv
  case neg => exact p_neg hok ha hv
  case conv => exact p_conv hok ha hv
  case mkFunc => exact p_mkFunc hok ha hv
  case slice => exact p_slice hok ha hv
  case sliceArr => exact p_sliceArr hok ha hv
  case sliceStr => exact p_sliceStr hok ha hv
  case fieldAddr => exact p_fieldAddr hok ha hv
  case field => exact p_field hok ha hv
  case idxAddrS => exact p_idxAddrS hok ha hv
  case idxAddrA => exact p_idxAddrA hok ha hv
  case idxA => exact p_idxA hok ha hv
  case idxStr => exact p_idxStr hok ha hv
  case extract => exact p_extract hok ha hv
  case lenStr => exact p_lenStr hok ha hv
  case lenSlc => exact p_lenSlc hok ha hv
  case min => exact p_min hok ha hv
  case max => exact p_max hok ha hv

end Go.AM
