/- An abstract machine for walks, and its soundness (one of three texts). -/
import Derived.WalkKit
import Derived.Orders
import Derived.Deep.Quiet
namespace Go.Proofs.YtipmkjfbdflneaaDoor.AM
open Go

/-- The shape of a piece of plain data: how many cells it has, and how they are grouped. -/
inductive Sh where
  | one
  | int (k : IntKind)
  | bool
  | arr (n : Nat) (s : Sh)
  | st (l : List Sh)

mutual
def Sh.size : Sh → Nat
  | .one => 1
  | .int _ => 1
  | .bool => 1
  | .arr n s => n * s.size
  | .st l => Sh.sizeL l
def Sh.sizeL : List Sh → Nat
  | [] => 0
  | s :: l => s.size + Sh.sizeL l
end

def kindBeq : IntKind → IntKind → Bool
  | .i8, .i8 => true
  | .i16, .i16 => true
  | .i32, .i32 => true
  | .i64, .i64 => true
  | .u8, .u8 => true
  | .u16, .u16 => true
  | .u32, .u32 => true
  | .u64, .u64 => true
  | _, _ => false

theorem kind_of_beq {a b : IntKind} (h : kindBeq a b = true) : a = b := by
  cases a <;> cases b <;> first | rfl | (simp [kindBeq] at h)

mutual
def Sh.beq : Sh → Sh → Bool
  | .one, .one => true
  | .int k, .int k' => kindBeq k k'
  | .bool, .bool => true
  | .arr n s, .arr m u => Nat.beq n m && Sh.beq s u
  | .st l, .st m => Sh.beqL l m
  | _, _ => false
def Sh.beqL : List Sh → List Sh → Bool
  | [], [] => true
  | s :: l, u :: m => Sh.beq s u && Sh.beqL l m
  | _, _ => false
end

mutual
theorem Sh.eq_of_beq : ∀ (a b : Sh), Sh.beq a b = true → a = b
  | .one, b, h => by cases b <;> first | rfl | (simp [Sh.beq] at h)
  | .int k, b, h => by
    cases b <;> simp [Sh.beq] at h
    rw [kind_of_beq h]
  | .bool, b, h => by cases b <;> first | rfl | (simp [Sh.beq] at h)
  | .arr n s, b, h => by
    cases b <;> simp only [Sh.beq, Bool.and_eq_true] at h <;> try (cases h; done)
    have h1 := Nat.eq_of_beq_eq_true h.1
    have h2 := Sh.eq_of_beq s _ h.2
    rw [h1, h2]
  | .st l, b, h => by
    cases b <;> simp only [Sh.beq] at h <;> try (cases h; done)
    rw [Sh.eqL_of_beq l _ h]
theorem Sh.eqL_of_beq : ∀ (a b : List Sh), Sh.beqL a b = true → a = b
  | [], [], _ => rfl
  | s :: l, u :: m, h => by
    simp only [Sh.beqL, Bool.and_eq_true] at h
    rw [Sh.eq_of_beq s u h.1, Sh.eqL_of_beq l m h.2]
  | [], _ :: _, h => by simp [Sh.beqL] at h
  | _ :: _, [], h => by simp [Sh.beqL] at h
end

/-- Plain data: no address in it. -/
inductive PV where
  | i (k : IntKind) (n : Int)
  | b (x : Bool)
  | str (s : ByteArray)
  | arr (n : Nat) (s : Sh) (l : List PV)
  | st (l : List PV)

mutual
def PV.sh : PV → Sh
  | .i k _ => .int k
  | .b _ => .bool
  | .str _ => .one
  | .arr n s _ => .arr n s
  | .st l => .st (PV.shL l)
def PV.shL : List PV → List Sh
  | [] => []
  | x :: l => x.sh :: PV.shL l
end

mutual
def PV.cells : PV → List Value
  | .i k n => [.int k n]
  | .b x => [.bool x]
  | .str s => [.string s]
  | .arr _ _ l => PV.cellsL l
  | .st l => PV.cellsL l
def PV.cellsL : List PV → List Value
  | [] => []
  | x :: l => x.cells ++ PV.cellsL l
end

-- Arrays have as many elements as they say, all of the shape that they say.
mutual
def PV.ok : PV → Prop
  | .i _ _ => True
  | .b _ => True
  | .str _ => True
  | .arr n s l => l.length = n ∧ PV.okL l ∧ PV.allSh s l
  | .st l => PV.okL l
def PV.okL : List PV → Prop
  | [] => True
  | x :: l => x.ok ∧ PV.okL l
def PV.allSh (s : Sh) : List PV → Prop
  | [] => True
  | x :: l => x.sh = s ∧ PV.allSh s l
end

def PV.val : PV → Value
  | .i k n => .int k n
  | .b x => .bool x
  | .str s => .string s
  | .arr _ _ l => .agg (PV.cellsL l).toArray
  | .st l => .agg (PV.cellsL l).toArray

def PV.isAgg : PV → Bool
  | .arr _ _ _ => true
  | .st _ => true
  | _ => false

/-- Values of the abstract machine. -/
inductive AV where
  /-- nothing is known -/
  | junk
  | p (x : PV)
  /-- the nil slice -/
  | nil
  /-- a slice in memory that nobody writes while the function runs -/
  | ro (s : Sh) (l : List PV)
  /-- the same, of slices -/
  | roA (l : List AV)
  /-- a slice of a block of the function's own: from an element on, so many -/
  | sl (id off len : Nat)
  /-- the whole of such a block -/
  | own (id : Nat)
  /-- a part of an array variable -/
  | sa (id : Nat) (path : List Nat) (off len : Nat)
  /-- the address of a variable of the function's own, and the way into it -/
  | ptr (id : Nat) (path : List Nat)
  /-- the address of an element of a block of the function's own -/
  | pe (id i : Nat) (path : List Nat)
  /-- the address of so many elements of such a block -/
  | pes (id off len : Nat)
  /-- an address in memory that nobody writes while the function runs -/
  | rp (x : AV)
  | fn (f : Nat) (caps : List AV)
  | st (l : List AV)
  | tup (l : List AV)
  /-- the nil function -/
  | nilf
  /-- the nil map -/
  | nilm
  /-- what a range over a function hands to its iterator: the loop's record is a block -/
  | yl (id : Nat)
  /-- a map of the function's own, of strings to true -/
  | mp (id : Nat)

/-- How the record of a range over a function stands. -/
inductive LSt where
  | ready
  | busy
  | ret
  | exit (i : Nat)
  | ex

/-- A block of the function's own. -/
inductive Blk where
  | var (x : AV)
  | els (rw : Bool) (s : Sh) (l : List PV)
  | elsA (l : List AV)
  | dead
  /-- the record of a range over a function: the rounds' temporaries as they stand at its beginning -/
  | lp (ps : Array Tmp) (a b : Code) (e : List (Nat × AV)) (n : Nat) (s : LSt)
  /-- the block for the rounds' deferred calls: none -/
  | mk
  /-- a map's keys, in the order of their coming -/
  | mp (l : List ByteArray)

abbrev Env := List (Nat × AV)
abbrev Heap := List (Nat × Blk)

def get : Env → Nat → AV
  | [], _ => .junk
  | (u, v) :: r, t => match Nat.beq u t with
    | true => v
    | false => get r t

def find : Heap → Nat → Option Blk
  | [], _ => none
  | (u, v) :: r, t => match Nat.beq u t with
    | true => some v
    | false => find r t

/-- How a type lies, as the operations ask for it. -/
inductive TK where
  | int (k : IntKind)
  | bool
  | str
  | slice (e : Nat)
  | arr (n e : Nat)
  | st (fs : List (Nat × Nat))
  | ptr (e : Nat)
  | map (k e : Nat)
  | other

structure TD where
  kind : TK
  size : Nat
  bytes : Nat
  agg : Bool
  zero : Option AV

abbrev TT := List (Nat × TD)

def TT.at (tt : TT) (t : Nat) : Option TD :=
  match tt with
  | [] => none
  | (u, d) :: r => match Nat.beq u t with
    | true => some d
    | false => TT.at r t

end Go.Proofs.YtipmkjfbdflneaaDoor.AM

namespace Go.Proofs.YtipmkjfbdflneaaDoor.AM
open Go

/-- A list at an integer index. -/
def getI {α : Type} (l : List α) (i : Int) : Option α :=
  match decide (0 ≤ i) with
  | true => l[i.toNat]?
  | false => none

/-- A place in a piece of data, by a way of fields and indexes. -/
def nav : PV → List Nat → Option PV
  | x, [] => some x
  | .st l, f :: r => match l[f]? with
    | some x => nav x r
    | none => none
  | .arr _ _ l, f :: r => match l[f]? with
    | some x => nav x r
    | none => none
  | _, _ :: _ => none

def navA : AV → List Nat → Option AV
  | x, [] => some x
  | .p x, f :: r => match nav x (f :: r) with
    | some y => some (.p y)
    | none => none
  | .st l, f :: r => match l[f]? with
    | some x => navA x r
    | none => none
  | _, _ :: _ => none

/-- Another value at a place. -/
def setP : PV → List Nat → PV → Option PV
  | _, [], v => some v
  | .st l, f :: r, v => match l[f]? with
    | some x => match setP x r v with
      | some y => some (.st (l.set f y))
      | none => none
    | none => none
  | .arr n s l, f :: r, v => match l[f]? with
    | some x => match setP x r v with
      | some y => some (.arr n s (l.set f y))
      | none => none
    | none => none
  | _, _ :: _, _ => none

def setA : AV → List Nat → AV → Option AV
  | _, [], v => some v
  | .p x, f :: r, .p v => match setP x (f :: r) v with
    | some y => some (.p y)
    | none => none
  | .st l, f :: r, v => match l[f]? with
    | some x => match setA x r v with
      | some y => some (.st (l.set f y))
      | none => none
    | none => none
  | _, _ :: _, _ => none

mutual
def AV.sh : AV → Sh
  | .p x => x.sh
  | .st l => .st (AV.shL l)
  | _ => .one
def AV.shL : List AV → List Sh
  | [] => []
  | x :: l => x.sh :: AV.shL l
end

def AV.isAgg : AV → Bool
  | .p x => x.isAgg
  | .st _ => true
  | _ => false

/-- May stand in memory. -/
def AV.stays : AV → Bool
  | .junk => false
  | .tup _ => false
  | _ => true

mutual
/-- The blocks that a value names. -/
def AV.refs : AV → List Nat
  | .sl id _ _ => [id]
  | .own id => [id]
  | .sa id _ _ _ => [id]
  | .ptr id _ => [id]
  | .pe id _ _ => [id]
  | .pes id _ _ => [id]
  | .yl id => [id]
  | .mp id => [id]
  | .rp x => x.refs
  | .roA l => AV.refsL l
  | .fn _ l => AV.refsL l
  | .st l => AV.refsL l
  | .tup l => AV.refsL l
  | _ => []
def AV.refsL : List AV → List Nat
  | [] => []
  | x :: l => x.refs ++ AV.refsL l
end

def memN : Nat → List Nat → Bool
  | _, [] => false
  | n, m :: l => match Nat.beq n m with
    | true => true
    | false => memN n l

abbrev HeapF := Nat → Option Blk

/-- The heap, at the blocks that an operation may look at. -/
def restrict (H : HeapF) (l : List Nat) : HeapF := fun id =>
  match memN id l with
  | true => H id
  | false => none

def ofConst : Value → AV
  | .int k n => .p (.i k n)
  | .bool x => .p (.b x)
  | .string s => .p (.str s)
  | .slice none 0 0 => .nil
  | _ => .junk

/-- Package-level variables that are read: what they hold. -/
abbrev Globs := List (Nat × PV)

def globAt : Globs → Nat → AV
  | [], _ => .junk
  | (h, x) :: r, g => match Nat.beq h g with
    | true => .rp (.p x)
    | false => globAt r g

def ev (G : Globs) (ρ : Nat → AV) : Operand → AV
  | .tmp t => ρ t
  | .const v => ofConst v
  | .global g => globAt G g
  | .func f => .fn f []

/-- A slice as a callee sees it: what it holds. -/
def shut0 (L : HeapF) : AV → Option AV
  | .p x => some (.p x)
  | .nil => some (.ro .one [])
  | .ro s l => some (.ro s l)
  | .own id => match L id with
    | some (.els _ s l) => some (.ro s l)
    | _ => none
  | .sl id off len => match L id with
    | some (.els _ s l) => some (.ro s ((l.drop off).take len))
    | _ => none
  | .sa id path off len => match L id with
    | some (.var x) => match navA x path with
      | some (.p (.arr _ s l)) => some (.ro s ((l.drop off).take len))
      | _ => none
    | _ => none
  | _ => none

def shut0L (L : HeapF) : List AV → Option (List AV)
  | [] => some []
  | x :: l => match shut0 L x with
    | some y => match shut0L L l with
      | some m => some (y :: m)
      | none => none
    | none => none

/-- The same, of slices of slices too; the address of a variable: what is there. -/
def shut1 (L : HeapF) : AV → Option AV
  | .roA l => match shut0L L l with
    | some m => some (.roA m)
    | none => none
  | .own id => match L id with
    | some (.els _ s l) => some (.ro s l)
    | some (.elsA l) => match shut0L L l with
      | some m => some (.roA m)
      | none => none
    | _ => none
  | .rp x => match shut0 L x with
    | some y => some (.rp y)
    | none => none
  | .ptr id path => match L id with
    | some (.var x) => match navA x path with
      | some y => match shut0 L y with
        | some z => some (.rp z)
        | none => none
      | none => none
    | _ => none
  | x => shut0 L x

def shutL (L : HeapF) : List AV → Option (List AV)
  | [] => some []
  | x :: l => match shut1 L x with
    | some y => match shutL L l with
      | some m => some (y :: m)
      | none => none
    | none => none

/-- The same, of structs and function values too. -/
def shut (L : HeapF) : AV → Option AV
  | .st l => match shutL L l with
    | some m => some (.st m)
    | none => none
  | .fn f l => match shutL L l with
    | some m => some (.fn f m)
    | none => none
  | x => shut1 L x

def shutAll (L : HeapF) : List AV → Option (List AV)
  | [] => some []
  | x :: l => match shut L x with
    | some y => match shutAll L l with
      | some m => some (y :: m)
      | none => none
    | none => none

abbrev Delta := List (Nat × Blk)

def upd {α : Type} (f : Nat → α) (i : Nat) (v : α) : Nat → α := fun j => if j = i then v else f j

def addF : Delta → HeapF → HeapF
  | [], H => H
  | (i, b) :: d, H => addF d (upd H i (some b))

def appD : Delta → Delta → Delta
  | [], e => e
  | x :: d, e => x :: appD d e

/-- What a callee hands back becomes the caller's own. -/
def adopt1 (L : HeapF) (site : Nat) : AV → Option (AV × Delta)
  | .p x => some (.p x, [])
  | .ro s l => match L site with
    | none => some (.own site, [(site, .els true s l)])
    | some _ => none
  | _ => none

def adoptL (fid : Nat → Nat) : HeapF → Nat → List AV → Option (List AV × Delta)
  | _, _, [] => some ([], [])
  | L, site, x :: l => match adopt1 L (fid site) x with
    | some (y, d) => match adoptL fid (addF d L) (site + 1) l with
      | some (m, e) => some (y :: m, appD d e)
      | none => none
    | none => none

def adoptT (fid : Nat → Nat) : HeapF → Nat → List AV → Option (List AV × Delta)
  | _, _, [] => some ([], [])
  | L, site, .st l :: r => match adoptL fid L site l with
    | some (m, d) => match adoptT fid (addF d L) (site + 2) r with
      | some (n, e) => some (.st m :: n, appD d e)
      | none => none
    | none => none
  | L, site, x :: r => match adopt1 L (fid site) x with
    | some (y, d) => match adoptT fid (addF d L) (site + 1) r with
      | some (n, e) => some (y :: n, appD d e)
      | none => none
    | none => none

def adopt (L : HeapF) (fid : Nat → Nat) (site : Nat) : AV → Option (AV × Delta)
  | .tup l => match adoptT fid L site l with
    | some (m, d) => some (.tup m, d)
    | none => none
  | .st l => match adoptL fid L site l with
    | some (m, d) => some (.st m, d)
    | none => none
  | x => adopt1 L (fid site) x

end Go.Proofs.YtipmkjfbdflneaaDoor.AM

namespace Go.Proofs.YtipmkjfbdflneaaDoor.AM
open Go

/-- What a program's type says: the way that the operations ask for it. -/
structure Ctx where
  tt : TT
  G : Globs

def Ctx.at (X : Ctx) (t : Nat) : Option TD := TT.at X.tt t

def Ctx.field (X : Ctx) (t f : Nat) : Option (Nat × Nat) :=
  match X.at t with
  | some ⟨.st fs, _, _, _, _⟩ => fs[f]?
  | _ => none

/-- Does a value lie as a type says. -/
def fits (d : TD) (x : AV) : Bool := (x.isAgg == d.agg) && Nat.beq x.sh.size d.size

def arith (op : BinOp) (k : IntKind) (a b : Int) : Option PV :=
  match op with
  | .add => some (.i k (k.wrap (a + b)))
  | .sub => some (.i k (k.wrap (a - b)))
  | .mul => some (.i k (k.wrap (a * b)))
  | .quo => match decide (b = 0) with
    | true => none
    | false => some (.i k (k.wrap (a.tdiv b)))
  | .rem => match decide (b = 0) with
    | true => none
    | false => some (.i k (a.tmod b))
  | .and => some (.i k (k.wrap (BitVec.ofInt k.bits a &&& BitVec.ofInt k.bits b).toNat))
  | .or => some (.i k (k.wrap (BitVec.ofInt k.bits a ||| BitVec.ofInt k.bits b).toNat))
  | .xor => some (.i k (k.wrap (BitVec.ofInt k.bits a ^^^ BitVec.ofInt k.bits b).toNat))
  | .andNot => some (.i k (k.wrap (BitVec.ofInt k.bits a &&& ~~~(BitVec.ofInt k.bits b)).toNat))
  | .eql => some (.b (a == b))
  | .neq => some (.b (a != b))
  | .lss => some (.b (decide (a < b)))
  | .leq => some (.b (decide (a ≤ b)))
  | .gtr => some (.b (decide (a > b)))
  | .geq => some (.b (decide (a ≥ b)))
  | _ => none

def shiftV (op : BinOp) (k : IntKind) (a b : Int) : Option PV :=
  match decide (b < 0) with
  | true => none
  | false => match op with
    | .shl => some (.i k (k.wrap (a * 2 ^ (min b.toNat k.bits))))
    | .shr => some (.i k (a.fdiv (2 ^ (min b.toNat k.bits))))
    | _ => none

mutual
/-- Are two pieces of data of one shape the same. -/
def PV.same : PV → PV → Bool
  | .i _ u, .i _ v => u == v
  | .b u, .b v => u == v
  | .str u, .str v => u == v
  | .arr _ _ l, .arr _ _ m => PV.sameL l m
  | .st l, .st m => PV.sameL l m
  | _, _ => false
def PV.sameL : List PV → List PV → Bool
  | [], [] => true
  | u :: l, v :: m => PV.same u v && PV.sameL l m
  | _, _ => false
end

def isEq : BinOp → Option Bool
  | .eql => some true
  | .neq => some false
  | _ => none

mutual
/-- The type has nothing in it but integers and bools, at the depth that is asked for, and lies as the shape says: its values compare cell by cell. -/
def flat (X : Ctx) : Nat → Nat → Sh → Bool
  | 0, _, _ => false
  | n + 1, t, s => match X.at t with
    | some ⟨k, z, _, g, _⟩ => Nat.beq z s.size && (match k, s with
      | .int j, .int j' => kindBeq j j' && !g
      | .bool, .bool => !g
      | .arr m e, .arr m' s' => Nat.beq m m' && g && flat X n e s'
      | .st fs, .st l => g && flatL X n 0 fs l
      | _, _ => false)
    | none => false
def flatL (X : Ctx) : Nat → Nat → List (Nat × Nat) → List Sh → Bool
  | 0, _, _, _ => false
  | _ + 1, _, [], [] => true
  | n + 1, off, (o, u) :: fs, s :: l => Nat.beq o off && flat X n u s && flatL X n (off + s.size) fs l
  | _, _, _, _ => false
end

def binV (X : Ctx) (op : BinOp) (t : Nat) (x y : AV) : Option PV :=
  match x, y with
  | .p (.i k a), .p (.i k' b) => match op with
    | .shl => shiftV op k a b
    | .shr => shiftV op k a b
    | _ => match kindBeq k k' with
      | true => arith op k a b
      | false => none
  | .p (.b a), .p (.b b) => match X.at t with
    | some ⟨.bool, _, _, _, _⟩ => match op with
      | .eql => some (.b (a == b))
      | .neq => some (.b (a != b))
      | _ => none
    | _ => none
  | .p (.str a), .p (.str b) => match op with
    | .eql => some (.b (a == b))
    | .neq => some (.b (a != b))
    | _ => none
  | .p x, .p y => match flat X 32 t x.sh && Sh.beq x.sh y.sh && x.isAgg && y.isAgg with
    | true => match op with
      | .eql => some (.b (PV.same x y))
      | .neq => some (.b (!PV.same x y))
      | _ => none
    | false => none
  | _, _ => none

def unV (op : UnOp) (x : AV) : Option PV :=
  match op, x with
  | .not, .p (.b a) => some (.b (!a))
  | .neg, .p (.i k a) => some (.i k (k.wrap (0 - a)))
  | .xor, .p (.i k a) => some (.i k (k.wrap (BitVec.ofInt k.bits (if k.signed then -1 else k.max) ^^^ BitVec.ofInt k.bits a).toNat))
  | _, _ => none

/-- The bounds of a slice expression: where it begins, and how long it is. -/
def bounds (lo hi : Option AV) (n : Nat) : Option (Nat × Nat) :=
  match lo, hi with
  | none, none => some (0, n)
  | some (.p (.i _ a)), none => match decide (0 ≤ a) with
    | true => match decide (a ≤ n) with
      | true => some (a.toNat, n - a.toNat)
      | false => none
    | false => none
  | none, some (.p (.i _ b)) => match decide (0 ≤ b) with
    | true => match decide (b ≤ n) with
      | true => some (0, b.toNat)
      | false => none
    | false => none
  | some (.p (.i _ a)), some (.p (.i _ b)) => match decide (0 ≤ a) with
    | true => match decide (a ≤ b) with
      | true => match decide (b ≤ n) with
        | true => some (a.toNat, b.toNat - a.toNat)
        | false => none
      | false => none
    | false => none
  | _, _ => none

/-- With a third index: it may not be less than the second, nor more than what is there. -/
def bounds3 (lo hi mx : Option AV) (n : Nat) : Option (Nat × Nat) :=
  match mx with
  | none => bounds lo hi n
  | some (.p (.i _ m)) => match hi with
    | some (.p (.i _ b)) => match decide (b ≤ m) with
      | true => match decide (m ≤ n) with
        | true => bounds lo hi n
        | false => none
      | false => none
    | _ => none
  | _ => none

/-- How many elements a slice has, and the kind of memory that it lies in. -/
def lenV (L : HeapF) : AV → Option Nat
  | .nil => some 0
  | .ro _ l => some l.length
  | .roA l => some l.length
  | .sl id _ n => match L id with
    | some (.els _ _ _) => some n
    | _ => none
  | .sa _ _ _ n => some n
  | .own id => match L id with
    | some (.els _ _ l) => some l.length
    | some (.elsA l) => some l.length
    | _ => none
  | _ => none

def snoc : List Nat → Nat → List Nat
  | [], n => [n]
  | m :: l, n => m :: snoc l n

/-- The part of a struct that a field names, if it lies where the type says. -/
def partOf (X : Ctx) (t f : Nat) : AV → Option AV
  | .p (.st l) => match X.field t f with
    | some (off, u) => match l[f]? with
      | some x => match X.at u with
        | some d => match Nat.beq (Sh.sizeL (PV.shL (l.take f))) off && fits d (.p x) && !(Nat.beq d.size 0) with
          | true => some (.p x)
          | false => none
        | none => none
      | none => none
    | none => none
  | .st l => match X.field t f with
    | some (off, u) => match l[f]? with
      | some x => match X.at u with
        | some d => match Nat.beq (Sh.sizeL (AV.shL (l.take f))) off && fits d x && !(Nat.beq d.size 0) with
          | true => some x
          | false => none
        | none => none
      | none => none
    | none => none
  | _ => none

def elemOK (X : Ctx) (t : Nat) (s : Sh) : Bool :=
  match X.at t with
  | some ⟨.arr _ e, _, _, _, _⟩ => match X.at e with
    | some d => Nat.beq d.size s.size
    | none => false
  | some ⟨.slice e, _, _, _, _⟩ => match X.at e with
    | some d => Nat.beq d.size s.size
    | none => false
  | _ => false

def isArr (X : Ctx) (t n : Nat) : Bool :=
  match X.at t with
  | some ⟨.arr m _, _, _, _, _⟩ => Nat.beq m n
  | _ => false

def isSlice (X : Ctx) (t : Nat) : Bool :=
  match X.at t with
  | some ⟨.slice _, _, _, _, _⟩ => true
  | _ => false

def elemZero (X : Ctx) (t : Nat) : Option (AV × TD) :=
  match X.at t with
  | some ⟨.slice e, _, _, _, _⟩ => match X.at e with
    | some ⟨k, a, b, c, some z⟩ => some (z, ⟨k, a, b, c, some z⟩)
    | _ => none
  | _ => none

def sliceV (X : Ctx) (L : HeapF) (t : Nat) (x : AV) (lo hi mx : Option AV) : Option AV :=
  match x with
  | .nil => match elemZero X t with
    | some _ => match bounds3 lo hi mx 0 with
      | some _ => some .nil
      | none => none
    | none => none
  | .ro s l => match isSlice X t && elemOK X t s with
    | true => match bounds3 lo hi mx l.length with
      | some (a, n) => some (.ro s ((l.drop a).take n))
      | none => none
    | false => none
  | .sl id off len => match L id with
    | some (.els _ s _) => match isSlice X t && elemOK X t s with
      | true => match bounds3 lo hi mx len with
        | some (a, n) => match a with
          | 0 => some (.sl id off n)
          | a + 1 => some (.sl id (off + (a + 1)) n)
        | none => none
      | false => none
    | _ => none
  | .own id => match L id with
    | some (.els _ s l) => match isSlice X t && elemOK X t s with
      | true => match bounds3 lo hi mx l.length with
        | some (a, n) => some (.sl id a n)
        | none => none
      | false => none
    | _ => none
  | .ptr id path => match L id with
    | some (.var x) => match navA x path with
      | some (.p (.arr k s _)) => match isArr X t k && elemOK X t s with
        | true => match bounds3 lo hi mx k with
          | some (a, n) => some (.sa id path a n)
          | none => none
        | false => none
      | _ => none
    | _ => none
  | .rp (.p (.arr k s l)) => match isArr X t k && elemOK X t s with
    | true => match bounds3 lo hi mx k with
      | some (a, n) => some (.ro s ((l.drop a).take n))
      | none => none
    | false => none
  | _ => none

def fieldAddrV (X : Ctx) (L : HeapF) (t f : Nat) : AV → Option AV
  | .ptr id path => match L id with
    | some (.var x) => match navA x path with
      | some y => match partOf X t f y with
        | some _ => some (.ptr id (snoc path f))
        | none => none
      | none => none
    | _ => none
  | .pe id i path => match L id with
    | some (.els _ _ l) => match l[i]? with
      | some x => match nav x path with
        | some y => match partOf X t f (.p y) with
          | some _ => some (.pe id i (snoc path f))
          | none => none
        | none => none
      | none => none
    | _ => none
  | .rp x => match partOf X t f x with
    | some y => some (.rp y)
    | none => none
  | _ => none

def indexAddrV (X : Ctx) (L : HeapF) (t : Nat) (x : AV) (i : Int) : Option AV :=
  match x with
  | .ptr id path => match L id with
    | some (.var x) => match navA x path with
      | some (.p (.arr n s l)) => match isArr X t n && elemOK X t s with
        | true => match getI l i with
          | some _ => some (.ptr id (snoc path i.toNat))
          | none => none
        | false => none
      | _ => none
    | _ => none
  | .rp (.p (.arr n s l)) => match isArr X t n && elemOK X t s with
    | true => match getI l i with
      | some y => some (.rp (.p y))
      | none => none
    | false => none
  | .ro s l => match isSlice X t && elemOK X t s with
    | true => match getI l i with
      | some y => some (.rp (.p y))
      | none => none
    | false => none
  | .roA l => match isSlice X t && elemOK X t .one with
    | true => match getI l i with
      | some y => some (.rp y)
      | none => none
    | false => none
  | .own id => match L id with
    | some (.els _ s l) => match isSlice X t && elemOK X t s with
      | true => match getI l i with
        | some _ => some (.pe id i.toNat [])
        | none => none
      | false => none
    | _ => none
  | .sl id off len => match L id with
    | some (.els _ s l) => match isSlice X t && elemOK X t s with
      | true => match getI ((l.drop off).take len) i with
        | some _ => some (.pe id (off + i.toNat) [])
        | none => none
      | false => none
    | _ => none
  | .sa id path off len => match L id with
    | some (.var x) => match navA x path with
      | some (.p (.arr _ s l)) => match isSlice X t && elemOK X t s with
        | true => match getI ((l.drop off).take len) i with
          | some _ => some (.ptr id (snoc path (off + i.toNat)))
          | none => none
        | false => none
      | _ => none
    | _ => none
  | _ => none

/-- What lies at an address. -/
def peekV (X : Ctx) (L : HeapF) (t : Nat) (a : AV) : Option AV :=
  match a with
  | .ptr id path => match L id with
    | some (.var x) => navA x path
    | _ => none
  | .pe id i path => match L id with
    | some (.els _ _ l) => match l[i]? with
      | some x => match nav x path with
        | some y => some (.p y)
        | none => none
      | none => none
    | _ => none
  | .pes id off len => match L id with
    | some (.els _ s l) => match isArr X t len && elemOK X t s with
      | true => some (.p (.arr len s ((l.drop off).take len)))
      | false => none
    | _ => none
  | .rp x => some x
  | _ => none

def loadV (X : Ctx) (L : HeapF) (t : Nat) (a : AV) : Option AV :=
  match X.at t with
  | some d => match peekV X L t a with
    | some y => match fits d y && y.stays with
      | true => some y
      | false => none
    | none => none
  | none => none

def storeV (X : Ctx) (L : HeapF) (t : Nat) (a v : AV) : Option Delta :=
  match X.at t with
  | some d => match Nat.beq v.sh.size d.size && v.stays with
    | true => match a with
      | .ptr id path => match L id with
        | some (.var x) => match navA x path with
          | some y => match Sh.beq y.sh v.sh && y.stays with
            | true => match setA x path v with
              | some z => some [(id, .var z)]
              | none => none
            | false => none
          | none => none
        | _ => none
      | .pe id i path => match L id with
        | some (.els true s l) => match v with
          | .p w => match l[i]? with
            | some x => match nav x path with
              | some y => match Sh.beq y.sh w.sh with
                | true => match setP x path w with
                  | some z => some [(id, .els true s (l.set i z))]
                  | none => none
                | false => none
              | none => none
            | none => none
          | _ => none
        | _ => none
      | _ => none
    | false => none
  | none => none

/-- The parts of a literal, laid over the zero value: of an array or a slice. -/
def fillP : List PV → List (Nat × AV) → Option (List PV)
  | l, [] => some l
  | l, (i, .p x) :: r => match l[i]? with
    | some y => match Sh.beq y.sh x.sh with
      | true => fillP (l.set i x) r
      | false => none
    | none => none
  | _, _ => none

/-- Of a struct. -/
def fillS (X : Ctx) (t : Nat) : List PV → List (Nat × AV) → Option (List PV)
  | l, [] => some l
  | l, (i, .p x) :: r => match partOf X t i (.p (.st l)) with
    | some y => match Sh.beq y.sh x.sh with
      | true => fillS X t (l.set i x) r
      | false => none
    | none => none
  | _, _ => none

def fillSA (X : Ctx) (t : Nat) : List AV → List (Nat × AV) → Option (List AV)
  | l, [] => some l
  | l, (i, x) :: r => match partOf X t i (.st l) with
    | some y => match Sh.beq y.sh x.sh && x.stays with
      | true => fillSA X t (l.set i x) r
      | false => none
    | none => none

/-- Of a slice of slices. -/
def fillA : List AV → List (Nat × AV) → Option (List AV)
  | l, [] => some l
  | l, (i, x) :: r => match l[i]? with
    | some _ => match !x.isAgg && x.stays with
      | true => fillA (l.set i x) r
      | false => none
    | none => none

def zeroOf (X : Ctx) (t : Nat) : Option AV :=
  match X.at t with
  | some ⟨_, _, _, _, z⟩ => z
  | none => none

def buildV (X : Ctx) (t : Nat) (parts : List (Nat × AV)) : Option AV :=
  match X.at t with
  | some ⟨.st _, _, _, _, some (.p (.st l))⟩ => match fillS X t l parts with
    | some m => some (.p (.st m))
    | none => none
  | some ⟨.st _, _, _, _, some (.st l)⟩ => match fillSA X t l parts with
    | some m => some (.st m)
    | none => none
  | some ⟨.arr _ _, _, _, _, some (.p (.arr n s l))⟩ => match isArr X t n && elemOK X t s with
    | true => match fillP l parts with
      | some m => some (.p (.arr n s m))
      | none => none
    | false => none
  | _ => none

def buildSliceV (X : Ctx) (L : HeapF) (id t n : Nat) (parts : List (Nat × AV)) : Option (AV × Delta) :=
  match L id with
  | some _ => none
  | none => match elemZero X t with
    | some (.p z, d) => match Nat.ble (n * d.size) 16777216 && fits d (.p z) && !(Nat.beq d.size 0) with
      | true => match fillP (List.replicate n z) parts with
        | some l => some (.own id, [(id, .els true z.sh l)])
        | none => none
      | false => none
    | some (.nil, d) => match Nat.ble (n * d.size) 16777216 && fits d .nil with
      | true => match fillA (List.replicate n .nil) parts with
        | some l => some (.own id, [(id, .elsA l)])
        | none => none
      | false => none
    | _ => none

def makeSliceV (X : Ctx) (L : HeapF) (id t : Nat) (n c : Int) : Option (AV × Delta) :=
  match L id with
  | some _ => none
  | none => match elemZero X t with
    | some (.p z, d) => match decide (0 ≤ n) with
      | true => match decide (n ≤ c) with
        | true => match decide (d.bytes * c ≤ 140737488355328) && decide (c ≤ 9223372036854775807) && fits d (.p z) with
          | true => some (.own id, [(id, .els true z.sh (List.replicate n.toNat z))])
          | false => none
        | false => none
      | false => none
    | _ => none

/-- What is appended: a slice's elements; or so many zero values. -/
def srcV (X : Ctx) (L : HeapF) (t : Nat) (_z y : AV) : Option (Sh × List PV) :=
  match X.at t with
  | some ⟨.slice _, _, _, _, _⟩ => match shut1 L y with
    | some (.ro s m) => some (s, m)
    | _ => none
  | _ => none

def appendV (X : Ctx) (L : HeapF) (id t u : Nat) (x y : AV) : Option (AV × Delta) :=
  match L id with
  | some _ => none
  | none => match elemZero X t with
    | some (z, d) => match srcV X L u z y with
      | some (s, m) => match Nat.beq d.size s.size && Nat.ble 1 d.bytes with
        | true => match x with
          | .nil => match decide (m.length * d.bytes ≤ 140737488351232) with
            | true => some (.own id, [(id, .els true s m)])
            | false => none
          | .own o => match L o with
            | some (.els true u l) => match Sh.beq s u with
              | true => match decide ((l.length + m.length) * d.bytes ≤ 140737488351232) with
                | true => some (.own id, [(o, .dead), (id, .els true u (l ++ m))])
                | false => none
              | false => none
            | _ => none
          | .sl o 0 n => match L o with
            | some (.els true u l) => match Sh.beq s u with
              | true => match decide ((n + m.length) * d.bytes ≤ 140737488351232) with
                | true => some (.own id, [(o, .dead), (id, .els true u (l.take n ++ m))])
                | false => none
              | false => none
            | _ => none
          | _ => none
        | false => none
      | none => none
    | none => none

/-- So many zero values, appended to nil: what slices.Grow does. -/
def appendZ (X : Ctx) (L : HeapF) (id t u : Nat) (x y : AV) : Option (AV × Delta) :=
  match L id with
  | some _ => none
  | none => match elemZero X t, X.at u, x, y with
    | some (.p z, d), some ⟨.int _, _, _, _, _⟩, .nil, .p (.i .i64 n) => match decide (0 ≤ n) with
      | true => match fits d (.p z) && Nat.ble 1 d.bytes && Nat.ble 1 d.size with
        | true => match decide (n * d.bytes ≤ 140737488351232) with
          | true => some (.own id, [(id, .els true z.sh (List.replicate n.toNat z))])
          | false => none
        | false => none
      | false => none
    | _, _, _, _ => none

/-- So many zero values, appended to a slice of the function's own. -/
def appendY (X : Ctx) (L : HeapF) (id t u : Nat) (x y : AV) : Option (AV × Delta) :=
  match L id with
  | some _ => none
  | none => match elemZero X t, X.at u, x, y with
    | some (.p z, d), some ⟨.int _, _, _, _, _⟩, .own o, .p (.i .i64 n) => match L o with
      | some (.els true s l) => match decide (0 ≤ n) with
        | true => match Sh.beq z.sh s && fits d (.p z) && Nat.ble 1 d.bytes && Nat.ble 1 d.size with
          | true => match decide ((l.length + n.toNat) * d.bytes ≤ 140737488351232) with
            | true => some (.own id, [(o, .dead), (id, .els true s (l ++ List.replicate n.toNat z))])
            | false => none
          | false => none
        | false => none
      | _ => none
    | _, _, _, _ => none

/-- A string's bytes. -/
def bytesOf (s : ByteArray) : List PV := s.data.toList.map fun b => .i .u8 b.toNat

/-- A string, converted to bytes: new memory, with a mark on it. -/
def strBytesV (X : Ctx) (L : HeapF) (id dst : Nat) (s : ByteArray) : Option (AV × Delta) :=
  match L id with
  | some _ => none
  | none => match X.at dst with
    | some ⟨.slice e, _, _, _, _⟩ => match X.at e with
      | some ⟨.int .u8, _, _, _, _⟩ => match decide (s.size ≤ 1000000) with
        | true => some (.own id, [(id, .els false (.int .u8) (bytesOf s))])
        | false => none
      | _ => none
    | _ => none

/-- Bytes as a string. -/
def byteOf : PV → UInt8
  | .i _ n => UInt8.ofNat n.toNat
  | _ => 0
def strOf (l : List PV) : ByteArray := ⟨(l.map byteOf).toArray⟩

/-- Bytes, converted to bytes: what a string literal's conversion is; the memory gets a mark. -/
def convSlV (X : Ctx) (L : HeapF) (src dst : Nat) (x : AV) : Option (AV × Delta) :=
  match Nat.beq src dst with
  | true => match X.at src with
    | some ⟨.slice e, _, _, _, _⟩ => match X.at e with
      | some ⟨.int .u8, _, _, _, _⟩ => match x with
        | .own id => match L id with
          | some (.els _ s (y :: l)) => some (.own id, [(id, .els false s (y :: l))])
          | _ => none
        | _ => none
      | _ => none
    | _ => none
  | false => none

def copyL {α : Type} (d : List α) (off len : Nat) (s : List α) : List α :=
  d.take off ++ (s.take len ++ d.drop (off + (s.take len).length))

def copyV (X : Ctx) (L : HeapF) (t : Nat) (x y : AV) : Option (AV × Delta) :=
  match shut1 L y with
  | some (.ro s m) => match x with
    | .sa id path off len => match L id with
      | some (.var v) => match navA v path with
        | some (.p (.arr n u l)) => match Sh.beq s u && isSlice X t && elemOK X t s with
          | true => match setA v path (.p (.arr n u (copyL l off len m))) with
            | some z => some (.p (.i .i64 (min m.length len)), [(id, .var z)])
            | none => none
          | false => none
        | _ => none
      | _ => none
    | _ => none
  | _ => none

def mapPair (f : Operand → AV) : List (Nat × Operand) → List (Nat × AV)
  | [] => []
  | (i, x) :: r => (i, f x) :: mapPair f r

def mapOp (f : Operand → AV) : List Operand → List AV
  | [] => []
  | x :: r => f x :: mapOp f r

def optOp (f : Operand → AV) : Option Operand → Option AV
  | none => none
  | some x => some (f x)

def capV (_L : HeapF) : AV → Option Nat
  | .nil => some 0
  | _ => none

def lenT (X : Ctx) (L : HeapF) (t : Nat) (x : AV) : Option Nat :=
  match X.at t with
  | some ⟨.slice _, _, _, _, _⟩ => lenV L x
  | some ⟨.arr n _, _, _, _, _⟩ => some n
  | some ⟨.str, _, _, _, _⟩ => match x with
    | .p (.str s) => some s.size
    | _ => none
  | _ => none

def max2V : AV → AV → Option AV
  | .p (.i k a), .p (.i _ b) => some (.p (.i k (if b > a then b else a)))
  | _, _ => none
def min2V : AV → AV → Option AV
  | .p (.i k a), .p (.i _ b) => some (.p (.i k (if b < a then b else a)))
  | _, _ => none
def foldV (f : AV → AV → Option AV) : AV → List AV → Option AV
  | x, [] => some x
  | x, y :: r => match f x y with
    | some z => foldV f z r
    | none => none

def builtinV (X : Ctx) (L : HeapF) (id : Nat) (b : Builtin) (ts : List Nat) (args : List AV) : Option (AV × Delta) :=
  match b with
  | .len => match ts, args with
    | [t], [x] => match lenT X L t x with
      | some n => some (.p (.i .i64 n), [])
      | none => none
    | _, _ => none
  | .cap => match ts, args with
    | [t], [x] => match isSlice X t with
      | true => match capV L x with
        | some n => some (.p (.i .i64 n), [])
        | none => none
      | false => none
    | _, _ => none
  | .max => match args with
    | x :: r => match foldV max2V x r with
      | some y => some (y, [])
      | none => none
    | _ => none
  | .min => match args with
    | x :: r => match foldV min2V x r with
      | some y => some (y, [])
      | none => none
    | _ => none
  | .append => match ts, args with
    | [t, u], [x, y] => match isSlice X u with
      | true => appendV X L id t u x y
      | false => match x with
        | .own _ => appendY X L id t u x y
        | _ => appendZ X L id t u x y
    | _, _ => none
  | .copy => match ts, args with
    | [t, _], [x, y] => copyV X L t x y
    | _, _ => none
  | _ => none

end Go.Proofs.YtipmkjfbdflneaaDoor.AM

namespace Go.Proofs.YtipmkjfbdflneaaDoor.AM
open Go

def elemFits (X : Ctx) (t : Nat) (x : AV) : Bool :=
  match X.at t with
  | some ⟨.arr _ e, _, _, _, _⟩ => match X.at e with
    | some d => fits d x
    | none => false
  | _ => false

/-- A map of strings to bools. -/
def isMapSB (X : Ctx) (t : Nat) : Bool :=
  match X.at t with
  | some ⟨.map k e, _, _, _, _⟩ => match X.at k, X.at e with
    | some ⟨.str, _, _, _, _⟩, some ⟨.bool, _, _, _, some (.p (.b false))⟩ => true
    | _, _ => false
  | _ => false

def hasK (s : ByteArray) : List ByteArray → Bool
  | [] => false
  | x :: l => (s == x) || hasK s l

def addKey (s : ByteArray) (l : List ByteArray) : List ByteArray :=
  match hasK s l with
  | true => l
  | false => l ++ [s]

/-- One operation that calls no function: its value, and what becomes of the heap. -/
def opV (X : Ctx) (ρ : Nat → AV) (L : HeapF) (fid : Nat → Nat) (o : Oper) : Option (AV × Delta) :=
  match o.op with
  | .move x => some (ev X.G ρ x, [])
  | .assign x => some (ev X.G ρ x, [])
  | .pick c a b => match ev X.G ρ c with
    | .p (.b y) => match y with
      | true => some (ev X.G ρ a, [])
      | false => some (ev X.G ρ b, [])
    | _ => none
  | .alloc t => match zeroOf X t with
    | some z => match L (fid ((o.dst.getD 0) * 8)) with
      | none => some (.ptr (fid ((o.dst.getD 0) * 8)) [], [(fid ((o.dst.getD 0) * 8), .var z)])
      | some _ => none
    | none => none
  | .box _ x => match (ev X.G ρ x).stays with
    | true => match L (fid ((o.dst.getD 0) * 8)) with
      | none => some (.ptr (fid ((o.dst.getD 0) * 8)) [], [(fid ((o.dst.getD 0) * 8), .var (ev X.G ρ x))])
      | some _ => none
    | false => none
  | .build t parts => match buildV X t (mapPair (ev X.G ρ) parts.toList) with
    | some v => some (v, [])
    | none => none
  | .buildSlice t n parts => buildSliceV X L (fid ((o.dst.getD 0) * 8)) t n (mapPair (ev X.G ρ) parts.toList)
  | .load t a => match loadV X L t (ev X.G ρ a) with
    | some v => some (v, [])
    | none => none
  | .store t a x => match storeV X L t (ev X.G ρ a) (ev X.G ρ x) with
    | some d => some (.junk, d)
    | none => none
  | .binOp op t x y _ => match binV X op t (ev X.G ρ x) (ev X.G ρ y) with
    | some v => some (.p v, [])
    | none => none
  | .unOp op _ x => match unV op (ev X.G ρ x) with
    | some v => some (.p v, [])
    | none => none
  | .convert src dst x => match X.at src, X.at dst, ev X.G ρ x with
    | some ⟨.int _, _, _, _, _⟩, some ⟨.int k, _, _, _, _⟩, .p (.i _ n) => some (.p (.i k (k.wrap n)), [])
    | some ⟨.str, _, _, _, _⟩, some _, .p (.str s) => strBytesV X L (fid ((o.dst.getD 0) * 8)) dst s
    | some ⟨.slice _, _, _, _, _⟩, some ⟨.slice _, _, _, _, _⟩, y => convSlV X L src dst y
    | some ⟨.slice e, _, _, _, _⟩, some ⟨.str, _, _, _, _⟩, y => match X.at e with
      | some ⟨.int .u8, _, _, _, _⟩ => match shut1 L y with
        | some (.ro (.int .u8) l) => some (.p (.str (strOf l)), [])
        | _ => none
      | _ => none
    | _, _, _ => none
  | .makeFunc fn first caps => match fn, first.toList with
    | .func f, [] => some (.fn f (mapOp (ev X.G ρ) caps.toList), [])
    | _, _ => none
  | .makeMap _ none => match L (fid ((o.dst.getD 0) * 8)) with
    | none => some (.mp (fid ((o.dst.getD 0) * 8)), [(fid ((o.dst.getD 0) * 8), .mp [])])
    | some _ => none
  | .lookup t x i c => match c with
    | false => match isMapSB X t, ev X.G ρ x, ev X.G ρ i with
      | true, .mp id, .p (.str s) => match L id with
        | some (.mp l) => some (.p (.b (hasK s l)), [])
        | _ => none
      | _, _, _ => none
    | true => none
  | .mapUpdate t m k v => match isMapSB X t, ev X.G ρ m, ev X.G ρ k with
    | true, .mp id, .p (.str s) => match ev X.G ρ v with
      | .p (.b true) => match L id with
        | some (.mp l) => some (.junk, [(id, .mp (addKey s l))])
        | _ => none
      | _ => none
    | _, _, _ => none
  | .makeSlice t n c => match ev X.G ρ n, ev X.G ρ c with
    | .p (.i .i64 a), .p (.i .i64 b) => makeSliceV X L (fid ((o.dst.getD 0) * 8)) t a b
    | _, _ => none
  | .slice t x lo hi mx => match sliceV X L t (ev X.G ρ x) (optOp (ev X.G ρ) lo) (optOp (ev X.G ρ) hi) (optOp (ev X.G ρ) mx) with
    | some v => some (v, [])
    | none => none
  | .fieldAddr t x f => match fieldAddrV X L t f (ev X.G ρ x) with
    | some v => some (v, [])
    | none => none
  | .field t x f => match partOf X t f (ev X.G ρ x) with
    | some v => some (v, [])
    | none => none
  | .indexAddr t x i => match ev X.G ρ i with
    | .p (.i _ n) => match indexAddrV X L t (ev X.G ρ x) n with
      | some v => some (v, [])
      | none => none
    | _ => none
  | .index t x i => match ev X.G ρ i, ev X.G ρ x with
    | .p (.i _ n), .p (.arr m s l) => match isArr X t m && elemOK X t s with
      | true => match getI l n with
        | some y => match elemFits X t (.p y) with
          | true => some (.p y, [])
          | false => none
        | none => none
      | false => none
    | _, _ => none
  | .extract x i => match ev X.G ρ x with
    | .tup l => match l[i]? with
      | some v => some (v, [])
      | none => none
    | _ => none
  | .sliceToArrayPointer t x => match ev X.G ρ x with
    | .sl id off len => match L id with
      | some (.els _ _ _) => match X.at t with
        | some ⟨.arr n _, _, _, _, _⟩ => match decide (n ≤ len) && Nat.ble 1 n with
          | true => some (.pes id off n, [])
          | false => none
        | _ => none
      | _ => none
    | _ => none
  | .nilCheck x => match ev X.G ρ x with
    | .ptr id path => some (.ptr id path, [])
    | .rp y => some (.rp y, [])
    | _ => none
  | .call ⟨.builtin b, args, ts⟩ => builtinV X L (fid ((o.dst.getD 0) * 8)) b ts.toList (mapOp (ev X.G ρ) args.toList)
  | _ => none

/-- The blocks that an operation may look at: those that its operands name, and those that it may make. -/
def opndRefs (G : Globs) (ρ : Nat → AV) : List Operand → List Nat
  | [] => []
  | x :: r => (ev G ρ x).refs ++ opndRefs G ρ r

def sites (fid : Nat → Nat) (o : Oper) : List Nat :=
  [fid ((o.dst.getD 0) * 8), fid ((o.dst.getD 0) * 8 + 1), fid ((o.dst.getD 0) * 8 + 2), fid ((o.dst.getD 0) * 8 + 3)]

def looks (X : Ctx) (ρ : Nat → AV) (fid : Nat → Nat) (o : Oper) : List Nat :=
  sites fid o ++ opndRefs X.G ρ o.op.operands.toList

def addD : Delta → Heap → Heap
  | [], h => h
  | e :: d, h => addD d (e :: h)

/-- Does an operation's guard let it run: the bool that the guarding operation left. -/
def guardV (_G : Globs) (ops : List Oper) (ρ : Nat → AV) (o : Oper) : Option Bool :=
  match o.guard with
  | none => some true
  | some (j, want) => match ops[j]? with
    | some g => match g.dst with
      | some t => match ρ t with
        | .p (.b x) => match want with
          | true => match x with
            | true => some true
            | false => some false
          | false => match x with
            | true => some false
            | false => some true
        | .tup [] => some false
        | _ => none
      | none => none
    | none => none

def O1 {α : Type} (x : Option α) (k : α → Prop) : Prop :=
  match x with
  | some a => k a
  | none => False

def putE (d : Option Tmp) (v : AV) (e : Env) : Env :=
  match d with
  | some t => (t, v) :: e
  | none => e

/-- The call of a Go function: which, and with what. -/
def callee (X : Ctx) (ρ : Nat → AV) (o : Oper) : Option (Nat × List AV) :=
  match o.op with
  | .call ⟨.value f, args, _⟩ => match ev X.G ρ f with
    | .fn g caps => some (g, mapOp (ev X.G ρ) args.toList ++ caps)
    | _ => none
  | _ => none

/-- The call of what a range over a function hands to its iterator. -/
def yielder (X : Ctx) (ρ : Nat → AV) (o : Oper) : Option (Nat × List AV) :=
  match o.op with
  | .call ⟨.value f, args, _⟩ => match ev X.G ρ f with
    | .yl id => some (id, mapOp (ev X.G ρ) args.toList)
    | _ => none
  | _ => none

end Go.Proofs.YtipmkjfbdflneaaDoor.AM

namespace Go.Proofs.YtipmkjfbdflneaaDoor.AM
open Go

/-- How a piece of code ends. -/
inductive Ex where
  | normal
  | exit (id : Nat)
  | ret

/-- What is to be shown of a call by its contract, of a call that goes on in the same memory, and of a loop. -/
structure Jd where
  fn : Nat → List AV → AV → Prop
  inl : Nat → List AV → Heap → (AV → Heap → Prop) → Prop
  yld : Nat → List AV → Heap → (AV → Heap → Prop) → Prop
  range : Nat → Operand → Array Tmp → Code → Code → Env → Heap → (Ex → Env → Heap → Prop) → Prop
  loop : Nat → Code → Env → Heap → (Ex → Env → Heap → Prop) → Prop

/-- The name of a new block: the operation's own. -/
def freshId (base : Nat) (_ : Heap) (s : Nat) : Nat := base + s

def forceN (n : Nat) (k : Nat → Prop) : Prop :=
  match n with
  | 0 => k 0
  | Nat.succ m => k (Nat.succ m)

theorem forceN_eq (n : Nat) (k : Nat → Prop) : forceN n k = k n := by cases n <;> rfl

/-- A value is reckoned before one goes on. -/
def forceV (v : AV) (k : AV → Prop) : Prop :=
  match v with
  | .junk => k .junk
  | .p x => k (.p x)
  | .nil => k .nil
  | .ro s l => k (.ro s l)
  | .roA l => k (.roA l)
  | .sl i o n => forceN i fun i => k (.sl i o n)
  | .own i => forceN i fun i => k (.own i)
  | .sa i p o n => forceN i fun i => k (.sa i p o n)
  | .ptr i p => forceN i fun i => k (.ptr i p)
  | .pe i j p => forceN i fun i => k (.pe i j p)
  | .pes i o n => forceN i fun i => k (.pes i o n)
  | .rp x => k (.rp x)
  | .fn f l => k (.fn f l)
  | .st l => k (.st l)
  | .tup l => k (.tup l)
  | .nilf => k .nilf
  | .nilm => k .nilm
  | .yl i => forceN i fun i => k (.yl i)
  | .mp i => forceN i fun i => k (.mp i)

theorem forceV_eq (v : AV) (k : AV → Prop) : forceV v k = k v := by cases v <;> simp only [forceV, forceN_eq]

def forceK (b : Blk) (k : Blk → Prop) : Prop :=
  match b with
  | .var x => forceV x fun x => k (.var x)
  | .els rw s l => k (.els rw s l)
  | .elsA l => k (.elsA l)
  | .dead => k .dead
  | .lp ps a b e n s => k (.lp ps a b e n s)
  | .mk => k .mk
  | .mp l => k (.mp l)

theorem forceK_eq (b : Blk) (k : Blk → Prop) : forceK b k = k b := by cases b <;> simp only [forceK, forceV_eq]

def addK : Delta → Heap → (Heap → Prop) → Prop
  | [], h, k => k h
  | (i, b) :: d, h, k => forceN i fun i => forceK b fun b => addK d ((i, b) :: h) k

/-- A slice held against nil. -/
def nilCmp (X : Ctx) (ρ : Nat → AV) (o : Oper) : Option (List PV × Bool) :=
  match o.op with
  | .binOp op t x (.const (.slice none 0 0)) _ => match isSlice X t with
    | true => match ev X.G ρ x with
      | .ro _ l => match isEq op with
        | some b => some (l, b)
        | none => none
      | _ => none
    | false => none
  | _ => none

/-- A list of numbers of functions whose calls go on in the caller's memory. -/
abbrev Inls := List Nat

/-- A bool that the walk comes upon: what follows, at its value. -/
structure Fork (x : Bool) (k : Bool → Prop) : Prop where
  out : k x

/-- A bool is known before one goes on: each of its two values is walked by itself. -/
def forceB (v : AV) (k : AV → Prop) : Prop :=
  match v with
  | .p (.b x) => Fork x fun y => k (.p (.b y))
  | v => forceV v k

theorem forceB_ok {v : AV} {k : AV → Prop} (h : forceB v k) : k v := by
  unfold forceB at h
  split at h
  · exact h.out
  · rw [forceV_eq] at h
    exact h

/-- What an operation of the kind that makes new bools leaves; copies are as they were. -/
def forceO (o : Oper) (v : AV) (k : AV → Prop) : Prop :=
  match o.op with
  | .move _ => forceV v k
  | .assign _ => forceV v k
  | .pick _ _ _ => forceV v k
  | .unOp _ _ _ => forceV v k
  | _ => forceB v k

theorem forceO_ok {o : Oper} {v : AV} {k : AV → Prop} (h : forceO o v k) : k v := by
  unfold forceO at h
  split at h
  · rw [forceV_eq] at h; exact h
  · rw [forceV_eq] at h; exact h
  · rw [forceV_eq] at h; exact h
  · rw [forceV_eq] at h; exact h
  · exact forceB_ok h

theorem iteT {x : Bool} {k : Bool → Prop} (h : x = true) (hp : k true) : Fork x k := ⟨by rw [h]; exact hp⟩
theorem iteF {x : Bool} {k : Bool → Prop} (h : x = false) (hq : k false) : Fork x k := ⟨by rw [h]; exact hq⟩
theorem iteC {x : Bool} {k : Bool → Prop} (hp : x = true → k true) (hq : x = false → k false) : Fork x k := by
  cases x
  · exact ⟨hq rfl⟩
  · exact ⟨hp rfl⟩

section
variable (X : Ctx) (J : Jd) (I : Inls) (base : Nat)

def callP (f : Nat) (as : List AV) (site : Nat) (h : Heap) (k : AV → Heap → Prop) : Prop :=
  match memN f I with
  | true => J.inl f as h k
  | false => match shutAll (find h) as with
    | some bs => ∃ r, J.fn f bs r ∧ match adopt (find h) (freshId base h) site r with
      | some (v, d) => addK d h (k v)
      | none => False
    | none => False

def stepP (all : List Oper) (o : Oper) (ih : Env → Heap → (Env → Heap → Prop) → Prop) (e : Env) (h : Heap) (K : Env → Heap → Prop) : Prop :=
  match guardV X.G all (get e) o with
    | none => False
    | some false => match o.dst with
      | some t => ih ((t, .tup []) :: e) h K
      | none => ih e h K
    | some true => match callee X (get e) o with
      | some (f, as) => callP J I base f as ((o.dst.getD 0) * 8) h (fun v h' => forceO o v fun v => match o.dst with
        | some t => ih ((t, v) :: e) h' K
        | none => ih e h' K)
      | none => match yielder X (get e) o with
        | some (i, as) => J.yld i as h (fun v h' => forceO o v fun v => match o.dst with
          | some t => ih ((t, v) :: e) h' K
          | none => ih e h' K)
        | none => match nilCmp X (get e) o with
        | some (l, b) => ∀ y : Bool, (y = true → l = []) → forceO o (.p (.b (y == b))) fun v => match o.dst with
          | some t => ih ((t, v) :: e) h K
          | none => ih e h K
        | none => match opV X (get e) (find h) (freshId base h) o with
          | some (v, d) => addK d h (fun h' => forceO o v fun v => match o.dst with
            | some t => ih ((t, v) :: e) h' K
            | none => ih e h' K)
          | none => False

noncomputable def opsP (all : List Oper) (l : List Oper) : Env → Heap → (Env → Heap → Prop) → Prop :=
  List.rec (motive := fun _ => Env → Heap → (Env → Heap → Prop) → Prop) (fun e h K => K e h) (fun o _ ih => stepP X J I base all o ih) l

def disjN : List Nat → List Nat → Bool
  | [], _ => true
  | n :: l, m => match memN n m with
    | true => false
    | false => disjN l m

/-- Does an operation wait for another one, whatever order is drawn. -/
def waitsL (k : Nat) : List Edge → Bool
  | [] => false
  | e :: r => match Region.binds .any e with
    | true => match Nat.beq e.on k with
      | true => true
      | false => waitsL k r
    | false => waitsL k r

def dIds : Delta → List Nat
  | [] => []
  | (i, _) :: d => i :: dIds d

abbrev Foot := Nat × List Nat × List Nat

/-- Does an operation wait for another one, itself or by what it waits for. -/
def reachB (all : List Oper) (k : Nat) : Nat → Oper → Bool
  | 0, o => waitsL k o.after.toList
  | n + 1, o => match waitsL k o.after.toList with
    | true => true
    | false => o.after.toList.any fun e => match Region.binds .any e with
      | true => match all[e.on]? with
        | some o' => reachB all k n o'
        | none => false
      | false => false

/-- Of two operations of which none waits for the other, none may look at a block that the other makes or turns. -/
def footOK (all : List Oper) (o : Oper) (lk wr : List Nat) : List Foot → Bool
  | [] => true
  | (k, lk', wr') :: r => match waitsL k o.after.toList with
    | true => footOK all o lk wr r
    | false => match disjN wr' lk && disjN wr' wr && disjN wr lk' with
      | true => footOK all o lk wr r
      | false => match reachB all k 12 o with
        | true => footOK all o lk wr r
        | false => false

def stepD (all : List Oper) (o : Oper) (ih : Nat → List Foot → Env → Heap → (Env → Heap → Prop) → Prop) (k : Nat) (done : List Foot) (e : Env) (h : Heap) (K : Env → Heap → Prop) : Prop :=
  match guardV X.G all (get e) o with
    | none => False
    | some false => match o.dst with
      | some t => ih (k + 1) ((k, [], []) :: done) ((t, .tup []) :: e) h K
      | none => ih (k + 1) ((k, [], []) :: done) e h K
    | some true => match callee X (get e) o with
      | some (f, as) => match shutAll (restrict (find h) (looks X (get e) (fun s => base + s) o)) as with
        | some bs => ∃ rv, J.fn f bs rv ∧ match adopt (find h) (fun s => base + s) ((o.dst.getD 0) * 8) rv with
          | some (v, d) => match footOK all o (looks X (get e) (fun s => base + s) o) (dIds d) done with
            | true => addK d h (fun h' => forceO o v fun v => match o.dst with
              | some t => ih (k + 1) ((k, looks X (get e) (fun s => base + s) o, dIds d) :: done) ((t, v) :: e) h' K
              | none => ih (k + 1) ((k, looks X (get e) (fun s => base + s) o, dIds d) :: done) e h' K)
            | false => False
          | none => False
        | none => False
      | none => match opV X (get e) (restrict (find h) (looks X (get e) (fun s => base + s) o)) (fun s => base + s) o with
        | some (v, d) => match footOK all o (looks X (get e) (fun s => base + s) o) (dIds d) done with
          | true => addK d h (fun h' => forceO o v fun v => match o.dst with
            | some t => ih (k + 1) ((k, looks X (get e) (fun s => base + s) o, dIds d) :: done) ((t, v) :: e) h' K
            | none => ih (k + 1) ((k, looks X (get e) (fun s => base + s) o, dIds d) :: done) e h' K)
          | false => False
        | none => False

/-- The call of a function value out of a temporary. -/
def dynCall (o : Oper) : Bool :=
  match o.op with
  | .call ⟨.value (.tmp _), _, _⟩ => true
  | _ => false

def findDyn : List Oper → Nat → Option Nat
  | [], _ => none
  | o :: r, i => match dynCall o with
    | true => some i
    | false => findDyn r (i + 1)

/-- Whom an operation waits for, and who guards it, stand ahead of it. -/
def lowerB : List Oper → Nat → Bool
  | [], _ => true
  | o :: r, i => match o.after.toList.all fun e => match Region.binds .any e with
      | true => Nat.blt e.on i
      | false => true with
    | true => match (match o.guard with
        | none => true
        | some (j, _) => Nat.blt j i) with
      | true => lowerB r (i + 1)
      | false => false
    | false => false

def reachAll (all : List Oper) (o : Oper) : Nat → Bool
  | 0 => true
  | i + 1 => match reachB all i 12 o with
    | true => reachAll all o i
    | false => false

def sufB (all : List Oper) : List Oper → Nat → Bool
  | [], _ => true
  | o :: r, i => match reachAll all o i with
    | true => sufB all r (i + 1)
    | false => false

/-- Where a row of operations whose order is open may be cut: what stands behind waits for all ahead of it, one after another. -/
def cutOf (l : List Oper) : Option Nat :=
  match findDyn l 0 with
  | some k => match lowerB l 0 with
    | true => match sufB l (l.drop k) k with
      | true => match Nat.ble k l.length with
        | true => some k
        | false => none
      | false => none
    | false => none
  | none => none

/-- A row of operations whose order is open: in the text's order, with a record of who looks at what. -/
noncomputable def opsD (all : List Oper) (k : Nat) (done : List Foot) (l : List Oper) : Env → Heap → (Env → Heap → Prop) → Prop :=
  List.rec (motive := fun _ => Nat → List Foot → Env → Heap → (Env → Heap → Prop) → Prop) (fun _ _ e h K => K e h) (fun o _ ih => stepD X J base all o ih) l k done

noncomputable def codeP (c : Code) : Env → Heap → (Ex → Env → Heap → Prop) → Prop :=
  Code.rec (motive := fun _ => Env → Heap → (Ex → Env → Heap → Prop) → Prop)
    (fun e h K => K .normal e h)
    (fun _ os d e h K => match d with
      | true => match cutOf os.toList with
        | some k => opsD X J base (os.toList.take k) 0 [] (os.toList.take k) e h fun e h => opsP X J I base os.toList (os.toList.drop k) e h (K .normal)
        | none => opsD X J base os.toList 0 [] os.toList e h (K .normal)
      | false => opsP X J I base os.toList os.toList e h (K .normal))
    (fun _ _ iha ihb e h K => iha e h (fun x e' h' => match x with
      | .normal => ihb e' h' K
      | .exit i => K (.exit i) e' h'
      | .ret => K .ret e' h'))
    (fun c _ _ iha ihb e h K => match ev X.G (get e) c with
      | .p (.b x) => match x with
        | true => iha e h K
        | false => ihb e h K
      | _ => False)
    (fun i _ ih e h K => ih e h (fun x e' h' => match x with
      | .normal => K .normal e' h'
      | .exit j => match Nat.beq j i with
        | true => K .normal e' h'
        | false => K (.exit j) e' h'
      | .ret => K .ret e' h'))
    (fun c _ e h K => J.loop base c e h K)
    (fun f ps a b _ _ e h K => J.range base f ps a b e h K)
    (fun i e h K => K (.exit i) e h)
    (fun _ _ _ _ _ => False)
    (fun _ _ _ _ => False)
    (fun _ _ _ _ => False)
    (fun e h K => K .ret e h)
    (fun _ _ _ _ => False)
    c
end

section
variable {X : Ctx} {J : Jd} {I : Inls} {base : Nat}

theorem opsP_nil {all : List Oper} {e : Env} {h : Heap} {K : Env → Heap → Prop} : opsP X J I base all [] e h K = K e h := rfl
theorem opsP_cons {all : List Oper} {o : Oper} {r : List Oper} {e : Env} {h : Heap} {K : Env → Heap → Prop} : opsP X J I base all (o :: r) e h K = stepP X J I base all o (opsP X J I base all r) e h K := rfl
theorem opsD_nil {all : List Oper} {k : Nat} {done : List Foot} {e : Env} {h : Heap} {K : Env → Heap → Prop} : opsD X J base all k done [] e h K = K e h := rfl
theorem opsD_cons {all : List Oper} {k : Nat} {done : List Foot} {o : Oper} {r : List Oper} {e : Env} {h : Heap} {K : Env → Heap → Prop} :
    opsD X J base all k done (o :: r) e h K = stepD X J base all o (fun k done => opsD X J base all k done r) k done e h K := rfl
theorem codeP_skip {e : Env} {h : Heap} {K : Ex → Env → Heap → Prop} : codeP X J I base .skip e h K = K .normal e h := rfl
theorem codeP_region {i : Nat} {os : Array Oper} {d : Bool} {e : Env} {h : Heap} {K : Ex → Env → Heap → Prop} : codeP X J I base (.region i os d) e h K = match d with
    | true => match cutOf os.toList with
      | some k => opsD X J base (os.toList.take k) 0 [] (os.toList.take k) e h fun e h => opsP X J I base os.toList (os.toList.drop k) e h (K .normal)
      | none => opsD X J base os.toList 0 [] os.toList e h (K .normal)
    | false => opsP X J I base os.toList os.toList e h (K .normal) := rfl
theorem codeP_seq {a b : Code} {e : Env} {h : Heap} {K : Ex → Env → Heap → Prop} : codeP X J I base (.seq a b) e h K = codeP X J I base a e h (fun x e' h' => match x with
    | .normal => codeP X J I base b e' h' K
    | .exit i => K (.exit i) e' h'
    | .ret => K .ret e' h') := rfl
theorem codeP_cond {c : Operand} {a b : Code} {e : Env} {h : Heap} {K : Ex → Env → Heap → Prop} : codeP X J I base (.cond c a b) e h K = match ev X.G (get e) c with
    | .p (.b x) => match x with
      | true => codeP X J I base a e h K
      | false => codeP X J I base b e h K
    | _ => False := rfl
theorem codeP_block {i : Nat} {c : Code} {e : Env} {h : Heap} {K : Ex → Env → Heap → Prop} : codeP X J I base (.block i c) e h K = codeP X J I base c e h (fun x e' h' => match x with
    | .normal => K .normal e' h'
    | .exit j => match Nat.beq j i with
      | true => K .normal e' h'
      | false => K (.exit j) e' h'
    | .ret => K .ret e' h') := rfl
theorem codeP_loop {c : Code} {e : Env} {h : Heap} {K : Ex → Env → Heap → Prop} : codeP X J I base (.loop c) e h K = J.loop base c e h K := rfl
theorem codeP_range {f : Operand} {ps : Array Tmp} {a b : Code} {e : Env} {h : Heap} {K : Ex → Env → Heap → Prop} : codeP X J I base (.rangeFunc f ps a b) e h K = J.range base f ps a b e h K := rfl
theorem codeP_exit {i : Nat} {e : Env} {h : Heap} {K : Ex → Env → Heap → Prop} : codeP X J I base (.exit i) e h K = K (.exit i) e h := rfl
theorem codeP_ret {e : Env} {h : Heap} {K : Ex → Env → Heap → Prop} : codeP X J I base .ret e h K = K .ret e h := rfl
end

/-- What a function hands back. -/
def resOne (X : Ctx) (ρ : Nat → AV) (L : HeapF) : ResultVar → Option AV
  | .tmp t => some (ρ t)
  | .cell t u => loadV X L u (ρ t)

def resAll (X : Ctx) (ρ : Nat → AV) (L : HeapF) : List ResultVar → Option (List AV)
  | [] => some []
  | r :: l => match resOne X ρ L r with
    | some v => match resAll X ρ L l with
      | some m => some (v :: m)
      | none => none
    | none => none

def resV (X : Ctx) (ρ : Nat → AV) (L : HeapF) (rs : List ResultVar) : Option AV :=
  match resAll X ρ L rs with
  | some [v] => some v
  | some l => some (.tup l)
  | none => none

def hd1 : List AV → AV
  | [] => .junk
  | x :: _ => x
def tl1 : List AV → List AV
  | [] => []
  | _ :: l => l
def parts1 : AV → List AV
  | .tup l => l
  | .st l => l
  | _ => []
/-- The nil slice is told as an empty one, of the shape that is asked for. -/
def toldN (g : AV) : AV :=
  match g with
  | .ro s _ => .ro s []
  | _ => .ro .one []

/-- What it hands back, as its caller is told. -/
def told1 (L : HeapF) (g : AV) : AV → Option AV
  | .p x => some (.p x)
  | .nil => some (toldN g)
  | .own id => match L id with
    | some (.els true s l) => some (.ro s l)
    | _ => none
  | .sl id 0 n => match L id with
    | some (.els true s l) => some (.ro s (l.take n))
    | _ => none
  | _ => none

def toldL (L : HeapF) : List AV → List AV → Option (List AV)
  | _, [] => some []
  | gs, x :: l => match told1 L (hd1 gs) x with
    | some y => match toldL L (tl1 gs) l with
      | some m => some (y :: m)
      | none => none
    | none => none

def toldT (L : HeapF) : List AV → List AV → Option (List AV)
  | _, [] => some []
  | gs, .st l :: r => match toldL L (parts1 (hd1 gs)) l with
    | some m => match toldT L (tl1 gs) r with
      | some n => some (.st m :: n)
      | none => none
    | none => none
  | gs, x :: r => match told1 L (hd1 gs) x with
    | some y => match toldT L (tl1 gs) r with
      | some n => some (y :: n)
      | none => none
    | none => none

def nodupN : List Nat → Bool
  | [] => true
  | n :: l => match memN n l with
    | true => false
    | false => nodupN l

def told (L : HeapF) (g : AV) (x : AV) : Option AV :=
  match nodupN x.refs with
  | true => match x with
    | .tup l => match toldT L (parts1 g) l with
      | some m => some (.tup m)
      | none => none
    | .st l => match toldL L (parts1 g) l with
      | some m => some (.st m)
      | none => none
    | x => told1 L g x
  | false => none

def bodyK (X : Ctx) (rs : List ResultVar) (K : AV → Heap → Prop) : Ex → Env → Heap → Prop
  | .exit _, _, _ => False
  | _, e, h => match resV X (get e) (find h) rs with
    | some v => K v h
    | none => False

def envOf : Nat → List AV → Env
  | _, [] => []
  | n, x :: l => (n, x) :: envOf (n + 1) l

end Go.Proofs.YtipmkjfbdflneaaDoor.AM

namespace Go.Proofs.YtipmkjfbdflneaaDoor.AM
open Go

theorem PV.cellsL_append (l m : List PV) : PV.cellsL (l ++ m) = PV.cellsL l ++ PV.cellsL m := by
  induction l with
  | nil => simp [PV.cellsL]
  | cons x l ih => simp [PV.cellsL, ih]

theorem PV.okL_append (l m : List PV) : PV.okL (l ++ m) ↔ PV.okL l ∧ PV.okL m := by
  induction l with
  | nil => simp [PV.okL]
  | cons x l ih => simp [PV.okL, ih, and_assoc]

theorem PV.allSh_append (s : Sh) (l m : List PV) : PV.allSh s (l ++ m) ↔ PV.allSh s l ∧ PV.allSh s m := by
  induction l with
  | nil => simp [PV.allSh]
  | cons x l ih => simp [PV.allSh, ih, and_assoc]

theorem PV.shL_append (l m : List PV) : PV.shL (l ++ m) = PV.shL l ++ PV.shL m := by
  induction l with
  | nil => simp [PV.shL]
  | cons x l ih => simp [PV.shL, ih]

theorem PV.shL_length (l : List PV) : (PV.shL l).length = l.length := by
  induction l with
  | nil => rfl
  | cons x l ih => simp [PV.shL, ih]

theorem Sh.sizeL_append (l m : List Sh) : Sh.sizeL (l ++ m) = Sh.sizeL l + Sh.sizeL m := by
  induction l with
  | nil => simp [Sh.sizeL]
  | cons x l ih => simp [Sh.sizeL, ih, Nat.add_assoc]

mutual
theorem PV.cells_length : ∀ (x : PV), x.ok → x.cells.length = x.sh.size
  | .i _ _, _ => by simp [PV.cells, PV.sh, Sh.size]
  | .b _, _ => by simp [PV.cells, PV.sh, Sh.size]
  | .str _, _ => by simp [PV.cells, PV.sh, Sh.size]
  | .arr n s l, h => by
    simp only [PV.ok] at h
    obtain ⟨h1, h2, h3⟩ := h
    simp only [PV.cells, PV.sh, Sh.size]
    rw [PV.cellsL_arr l s h2 h3, h1]
  | .st l, h => by
    simp only [PV.ok] at h
    simp only [PV.cells, PV.sh, Sh.size]
    exact PV.cellsL_st l h
theorem PV.cellsL_st : ∀ (l : List PV), PV.okL l → (PV.cellsL l).length = Sh.sizeL (PV.shL l)
  | [], _ => by simp [PV.cellsL, PV.shL, Sh.sizeL]
  | x :: l, h => by
    simp only [PV.okL] at h
    simp only [PV.cellsL, PV.shL, Sh.sizeL, List.length_append]
    rw [PV.cells_length x h.1, PV.cellsL_st l h.2]
theorem PV.cellsL_arr : ∀ (l : List PV) (s : Sh), PV.okL l → PV.allSh s l → (PV.cellsL l).length = l.length * s.size
  | [], s, _, _ => by simp [PV.cellsL]
  | x :: l, s, h, h' => by
    simp only [PV.okL] at h
    simp only [PV.allSh] at h'
    simp only [PV.cellsL, List.length_append, List.length_cons]
    rw [PV.cells_length x h.1, PV.cellsL_arr l s h.2 h'.2, h'.1, Nat.add_mul, Nat.one_mul, Nat.add_comm]
end

theorem PV.cells_val (x : PV) : x.val.cells = x.cells.toArray := by
  cases x <;> simp [PV.val, Value.cells, PV.cells]

theorem PV.cells_val_list (x : PV) : x.val.cells.toList = x.cells := by rw [PV.cells_val]

theorem PV.val_agg (x : PV) (h : x.isAgg = true) : x.val = .agg x.cells.toArray := by
  cases x <;> simp_all [PV.val, PV.isAgg, PV.cells]

theorem PV.cells_one (x : PV) (h : x.isAgg = false) : x.cells = [x.val] := by
  cases x <;> simp_all [PV.val, PV.isAgg, PV.cells]

theorem okL_get {l : List PV} (h : PV.okL l) {i : Nat} {x : PV} (hx : l[i]? = some x) : x.ok := by
  induction l generalizing i with
  | nil => simp at hx
  | cons y l ih =>
    simp only [PV.okL] at h
    cases i with
    | zero => simp at hx; subst hx; exact h.1
    | succ i => simp at hx; exact ih h.2 hx

theorem allSh_get {s : Sh} {l : List PV} (h : PV.allSh s l) {i : Nat} {x : PV} (hx : l[i]? = some x) : x.sh = s := by
  induction l generalizing i with
  | nil => simp at hx
  | cons y l ih =>
    simp only [PV.allSh] at h
    cases i with
    | zero => simp at hx; subst hx; exact h.1
    | succ i => simp at hx; exact ih h.2 hx

/-- A list, cut at a place. -/
theorem cut_at {α : Type} {l : List α} {i : Nat} {x : α} (hx : l[i]? = some x) : l = l.take i ++ x :: l.drop (i + 1) ∧ ∀ y, l.set i y = l.take i ++ y :: l.drop (i + 1) := by
  obtain ⟨hlt, hget⟩ := List.getElem?_eq_some_iff.1 hx
  refine ⟨?_, fun y => List.set_eq_take_append_cons_drop .. |>.trans (by rw [if_pos hlt])⟩
  have h1 : l = l.take i ++ l.drop i := (List.take_append_drop i l).symm
  rw [List.drop_eq_getElem_cons hlt, hget] at h1
  exact h1

/-- Where a place lies: by the shape alone. -/
def offS : Sh → List Nat → Option Nat
  | _, [] => some 0
  | .st l, f :: r => match l[f]? with
    | some s => match offS s r with
      | some o => some (Sh.sizeL (l.take f) + o)
      | none => none
    | none => none
  | .arr n s, i :: r => if i < n then match offS s r with
      | some o => some (i * s.size + o)
      | none => none
    else none
  | .one, _ :: _ => none
  | .int _, _ :: _ => none
  | .bool, _ :: _ => none

/-- The shape at a place. -/
def shS : Sh → List Nat → Option Sh
  | s, [] => some s
  | .st l, f :: r => match l[f]? with
    | some s => shS s r
    | none => none
  | .arr n s, i :: r => if i < n then shS s r else none
  | .one, _ :: _ => none
  | .int _, _ :: _ => none
  | .bool, _ :: _ => none

theorem shL_get {l : List PV} {f : Nat} {x : PV} (h : l[f]? = some x) : (PV.shL l)[f]? = some x.sh := by
  induction l generalizing f with
  | nil => simp at h
  | cons y l ih =>
    cases f with
    | zero => simp at h; subst h; simp [PV.shL]
    | succ f => simp at h; simp [PV.shL, ih h]

theorem shL_take (l : List PV) (f : Nat) : (PV.shL l).take f = PV.shL (l.take f) := by
  induction l generalizing f with
  | nil => simp [PV.shL]
  | cons y l ih =>
    cases f with
    | zero => simp [PV.shL]
    | succ f => simp [PV.shL, ih]

theorem shL_set {l : List PV} {f : Nat} {x y : PV} (h : l[f]? = some x) (hs : y.sh = x.sh) : PV.shL (l.set f y) = PV.shL l := by
  induction l generalizing f with
  | nil => simp
  | cons z l ih =>
    cases f with
    | zero => simp at h; subst h; simp [PV.shL, hs]
    | succ f => simp at h; simp [PV.shL, ih h]

theorem okL_set {l : List PV} {f : Nat} {y : PV} (h : PV.okL l) (hy : y.ok) : PV.okL (l.set f y) := by
  induction l generalizing f with
  | nil => simp [PV.okL]
  | cons z l ih =>
    simp only [PV.okL] at h
    cases f with
    | zero => simp [PV.okL, hy, h.2]
    | succ f => simp [PV.okL, h.1, ih h.2]

theorem allSh_set {s : Sh} {l : List PV} {f : Nat} {y : PV} (h : PV.allSh s l) (hy : y.sh = s) : PV.allSh s (l.set f y) := by
  induction l generalizing f with
  | nil => simp [PV.allSh]
  | cons z l ih =>
    simp only [PV.allSh] at h
    cases f with
    | zero => simp [PV.allSh, hy, h.2]
    | succ f => simp [PV.allSh, h.1, ih h.2]

theorem okL_take {l : List PV} (h : PV.okL l) (n : Nat) : PV.okL (l.take n) := by
  have := (PV.okL_append (l.take n) (l.drop n)).1 (by rw [List.take_append_drop]; exact h)
  exact this.1
theorem okL_drop {l : List PV} (h : PV.okL l) (n : Nat) : PV.okL (l.drop n) := by
  have := (PV.okL_append (l.take n) (l.drop n)).1 (by rw [List.take_append_drop]; exact h)
  exact this.2
theorem allSh_take {s : Sh} {l : List PV} (h : PV.allSh s l) (n : Nat) : PV.allSh s (l.take n) := by
  have := (PV.allSh_append s (l.take n) (l.drop n)).1 (by rw [List.take_append_drop]; exact h)
  exact this.1
theorem allSh_drop {s : Sh} {l : List PV} (h : PV.allSh s l) (n : Nat) : PV.allSh s (l.drop n) := by
  have := (PV.allSh_append s (l.take n) (l.drop n)).1 (by rw [List.take_append_drop]; exact h)
  exact this.2

theorem okL_replicate {x : PV} (h : x.ok) (n : Nat) : PV.okL (List.replicate n x) := by
  induction n with
  | zero => simp [PV.okL]
  | succ n ih => simp [List.replicate_succ, PV.okL, h, ih]
theorem allSh_replicate (x : PV) (n : Nat) : PV.allSh x.sh (List.replicate n x) := by
  induction n with
  | zero => simp [PV.allSh]
  | succ n ih => simp [List.replicate_succ, PV.allSh, ih]

/-- A place in a piece of data: where its cells lie, and what another value there makes of the whole. -/
theorem nav_spec : ∀ (path : List Nat) (x y : PV), x.ok → nav x path = some y →
    y.ok ∧ shS x.sh path = some y.sh ∧ ∃ o pre post, offS x.sh path = some o ∧ pre.length = o ∧ x.cells = pre ++ (y.cells ++ post) ∧
      ∀ v z, v.ok → v.sh = y.sh → setP x path v = some z → z.ok ∧ z.sh = x.sh ∧ z.cells = pre ++ (v.cells ++ post)
  | [], x, y, hx, h => by
    cases x <;> simp only [nav, Option.some.injEq] at h <;> subst h <;>
      refine ⟨hx, rfl, 0, [], [], rfl, rfl, by simp, ?_⟩ <;> intro v z hv hs hz <;> simp only [setP, Option.some.injEq] at hz <;> subst hz <;>
      exact ⟨hv, hs, by simp⟩
  | f :: r, .st l, y, hx, h => by
    simp only [nav] at h
    cases hl : l[f]? with
    | none => simp [hl] at h
    | some x =>
      simp only [hl] at h
      simp only [PV.ok] at hx
      obtain ⟨h1, h2, o, pre, post, h3, h4, h5, h6⟩ := nav_spec r x y (okL_get hx hl) h
      obtain ⟨c1, c2⟩ := cut_at hl
      refine ⟨h1, by simp [shS, PV.sh, shL_get hl, h2], Sh.sizeL ((PV.shL l).take f) + o, PV.cellsL (l.take f) ++ pre, post ++ PV.cellsL (l.drop (f + 1)), ?_, ?_, ?_, ?_⟩
      · simp [offS, PV.sh, shL_get hl, h3]
      · rw [List.length_append, h4, shL_take, PV.cellsL_st _ (okL_take hx f)]
      · simp only [PV.cells]
        conv => lhs; rw [c1]
        simp [PV.cellsL_append, PV.cellsL, h5]
      · intro v z hv hs hz
        simp only [setP, hl] at hz
        cases hz' : setP x r v with
        | none => simp [hz'] at hz
        | some x' =>
          simp only [hz', Option.some.injEq] at hz
          subst hz
          obtain ⟨g1, g2, g3⟩ := h6 v x' hv hs hz'
          refine ⟨by simp only [PV.ok]; exact okL_set hx g1, by simp [PV.sh, shL_set hl g2], ?_⟩
          simp only [PV.cells]
          rw [c2 x']
          simp [PV.cellsL_append, PV.cellsL, g3]
  | f :: r, .arr n s l, y, hx, h => by
    simp only [nav] at h
    cases hl : l[f]? with
    | none => simp [hl] at h
    | some x =>
      simp only [hl] at h
      simp only [PV.ok] at hx
      obtain ⟨hx1, hx2, hx3⟩ := hx
      have hsx := allSh_get hx3 hl
      have hlt : f < n := by rw [← hx1]; exact (List.getElem?_eq_some_iff.1 hl).1
      obtain ⟨h1, h2, o, pre, post, h3, h4, h5, h6⟩ := nav_spec r x y (okL_get hx2 hl) h
      obtain ⟨c1, c2⟩ := cut_at hl
      rw [hsx] at h2 h3
      refine ⟨h1, by simp [shS, PV.sh, hlt, h2], f * s.size + o, PV.cellsL (l.take f) ++ pre, post ++ PV.cellsL (l.drop (f + 1)), ?_, ?_, ?_, ?_⟩
      · simp [offS, PV.sh, hlt, h3]
      · rw [List.length_append, h4, PV.cellsL_arr _ s (okL_take hx2 f) (allSh_take hx3 f), List.length_take, Nat.min_eq_left (by omega)]
      · simp only [PV.cells]
        conv => lhs; rw [c1]
        simp [PV.cellsL_append, PV.cellsL, h5]
      · intro v z hv hs hz
        simp only [setP, hl] at hz
        cases hz' : setP x r v with
        | none => simp [hz'] at hz
        | some x' =>
          simp only [hz', Option.some.injEq] at hz
          subst hz
          obtain ⟨g1, g2, g3⟩ := h6 v x' hv hs hz'
          refine ⟨by simp only [PV.ok]; exact ⟨by simp [hx1], okL_set hx2 g1, allSh_set hx3 (g2.trans hsx)⟩, by simp [PV.sh], ?_⟩
          simp only [PV.cells]
          rw [c2 x']
          simp [PV.cellsL_append, PV.cellsL, g3]
  | _ :: _, .i _ _, _, _, h => by simp [nav] at h
  | _ :: _, .b _, _, _, h => by simp [nav] at h
  | _ :: _, .str _, _, _, h => by simp [nav] at h

end Go.Proofs.YtipmkjfbdflneaaDoor.AM

namespace Go.Proofs.YtipmkjfbdflneaaDoor.AM
open Go Go.RowKit

abbrev Phi := Nat → Option (Nat × Nat)

def RowAt (W : World) (a : Addr) (cs : List Value) : Prop := ∀ j c, cs[j]? = some c → W.cell? (a.add j) = some c

mutual
def Rel (W : World) (φ : Phi) (H : HeapF) : AV → Value → Prop
  | .junk, _ => True
  | .p x, v => x.ok ∧ v = x.val
  | .nil, v => v = .slice none 0 0
  | .ro s l, v => ∃ a c, v = .slice a l.length c ∧ l.length ≤ c ∧ PV.okL l ∧ PV.allSh s l ∧ (l = [] ∨ ∃ ad, a = some ad ∧ RowAt W ad (PV.cellsL l))
  | .roA l, v => ∃ a c vs, v = .slice a l.length c ∧ RelL W φ H l vs ∧ (∀ x ∈ l, x.isAgg = false ∧ x.stays = true) ∧ (l = [] ∨ ∃ ad, a = some ad ∧ RowAt W ad vs)
  | .sl id off n, v => match H id with
    | some .dead => ∃ a n c, v = .slice a n c
    | some (.els _ s l) => off + n ≤ l.length ∧ match φ id with
      | none => v = .slice none 0 0 ∧ n = 0
      | some (b, cap) => ∃ a c, v = .slice (some a) n c ∧ off + c ≤ cap ∧ n ≤ c ∧ (a = ⟨b, off * s.size, none⟩ ∨ (n = 0 ∧ off ≠ 0))
    | _ => False
  | .own id, v => match H id with
    | some .dead => ∃ a n c, v = .slice a n c
    | some (.els _ _ l) => match φ id with
      | none => v = .slice none 0 0 ∧ l = []
      | some (b, cap) => ∃ c, v = .slice (some ⟨b, 0, none⟩) l.length c ∧ c ≤ cap ∧ l.length ≤ c
    | some (.elsA l) => match φ id with
      | none => False
      | some (b, _) => ∃ c, v = .slice (some ⟨b, 0, none⟩) l.length c ∧ l.length ≤ c
    | _ => False
  | .sa id path off n, v => match H id with
    | some (.var x) => ∃ b cap o k s a c, φ id = some (b, cap) ∧ offS x.sh path = some o ∧ shS x.sh path = some (.arr k s) ∧ off + n ≤ k ∧
        v = .slice (some a) n c ∧ n ≤ c ∧ (a = ⟨b, o + off * s.size, none⟩ ∨ n = 0)
    | _ => False
  | .ptr id path, v => match H id with
    | some (.var x) => ∃ b cap o, φ id = some (b, cap) ∧ offS x.sh path = some o ∧ v = .pointer (some ⟨b, o, none⟩)
    | _ => False
  | .pe id i path, v => match H id with
    | some .dead => ∃ a, v = .pointer a
    | some (.els _ s l) => ∃ b cap o, φ id = some (b, cap) ∧ i < l.length ∧ offS s path = some o ∧ v = .pointer (some ⟨b, i * s.size + o, none⟩)
    | _ => False
  | .pes id off n, v => match H id with
    | some .dead => ∃ a, v = .pointer a
    | some (.els _ s l) => off + n ≤ l.length ∧ ∃ b cap a, φ id = some (b, cap) ∧ v = .pointer (some a) ∧ (a = ⟨b, off * s.size, none⟩ ∨ n = 0)
    | _ => False
  | .rp x, v => ∃ ad u, v = .pointer (some ad) ∧ Rel W φ H x u ∧ x.stays = true ∧ RowAt W ad u.cells.toList
  | .fn f l, v => ∃ cs : List Value, v = .func (.func f) #[] cs.toArray ∧ RelL W φ H l cs
  | .st l, v => ∃ vs : List Value, RelL W φ H l vs ∧ (∀ x ∈ l, x.stays = true) ∧ v = .agg (vs.flatMap fun u => u.cells.toList).toArray
  | .tup l, v => ∃ vs : List Value, RelL W φ H l vs ∧ v = .tuple vs.toArray
  | .nilf, v => v = .nilFunc
  | .nilm, v => v = .map none
  | .yl id, v => match H id with
    | some (.lp _ _ _ _ _ _) => ∃ b c, φ id = some (b, c) ∧ v = .func (.yield b) #[] #[]
    | _ => False
  | .mp id, v => match H id with
    | some (.mp _) => ∃ b c, φ id = some (b, c) ∧ v = .map (some b)
    | _ => False
def RelL (W : World) (φ : Phi) (H : HeapF) : List AV → List Value → Prop
  | [], [] => True
  | x :: l, v :: vs => Rel W φ H x v ∧ RelL W φ H l vs
  | _, _ => False
end

/-- What a block may become while values still name it. -/
def BlkLe : Blk → Blk → Prop
  | .var x, .var y => y.sh = x.sh
  | .els _ s l, .els _ u m => u = s ∧ m.length = l.length
  | .els _ _ _, .dead => True
  | .elsA l, .elsA m => m.length = l.length
  | .elsA _, .dead => True
  | .dead, .dead => True
  | .lp _ _ _ _ _ _, .lp _ _ _ _ _ _ => True
  | .mk, .mk => True
  | .mp _, .mp _ => True
  | _, _ => False

theorem BlkLe.refl (b : Blk) : BlkLe b b := by cases b <;> simp [BlkLe]

theorem BlkLe.trans {a b c : Blk} (h : BlkLe a b) (k : BlkLe b c) : BlkLe a c := by
  cases a <;> cases b <;> simp [BlkLe] at h <;> cases c <;> simp [BlkLe] at k ⊢ <;> simp_all

def HExt (φ : Phi) (H : HeapF) (φ' : Phi) (H' : HeapF) : Prop :=
  ∀ id blk, H id = some blk → φ' id = φ id ∧ ∃ blk', H' id = some blk' ∧ BlkLe blk blk'

theorem HExt.refl (φ : Phi) (H : HeapF) : HExt φ H φ H := fun _ b h => ⟨rfl, b, h, BlkLe.refl b⟩

theorem HExt.trans {φ φ1 φ2 : Phi} {H H1 H2 : HeapF} (h : HExt φ H φ1 H1) (k : HExt φ1 H1 φ2 H2) : HExt φ H φ2 H2 := fun id b hb => by
  obtain ⟨h1, b1, h2, h3⟩ := h id b hb
  obtain ⟨k1, b2, k2, k3⟩ := k id b1 h2
  exact ⟨k1.trans h1, b2, k2, h3.trans k3⟩

/-- The same, of all blocks but marks. -/
def HExtM (φ : Phi) (H : HeapF) (φ' : Phi) (H' : HeapF) : Prop :=
  ∀ id blk, H id = some blk → blk ≠ .mk → φ' id = φ id ∧ ∃ blk', H' id = some blk' ∧ BlkLe blk blk'

theorem HExt.toM {φ φ' : Phi} {H H' : HeapF} (h : HExt φ H φ' H') : HExtM φ H φ' H' := fun id b hb _ => h id b hb

mutual
theorem Rel.monoM {W : World} {φ φ' : Phi} {H H' : HeapF} (he : HExtM φ H φ' H') : ∀ (x : AV) (v : Value), Rel W φ H x v → Rel W φ' H' x v
  | .junk, _, _ => by simp [Rel]
  | .p x, v, h => by simpa [Rel] using h
  | .nil, v, h => by simpa [Rel] using h
  | .nilf, v, h => by simpa [Rel] using h
  | .nilm, v, h => by simpa [Rel] using h
  | .ro s l, v, h => by simpa [Rel] using h
  | .roA l, v, h => by
    simp only [Rel] at h ⊢
    obtain ⟨a, c, vs, h1, h2, h3⟩ := h
    exact ⟨a, c, vs, h1, RelL.monoM he l vs h2, h3⟩
  | .sl id off n, v, h => by
    simp only [Rel] at h ⊢
    cases hb : H id with
    | none => simp [hb] at h
    | some b =>
      obtain ⟨hp, b', hb', hle⟩ := he id b hb (by rintro rfl; simp [hb] at h)
      rw [hb] at h
      rw [hb', hp]
      cases b <;> cases b' <;> simp only [BlkLe] at hle <;> simp only at h ⊢
      · obtain ⟨rfl, hl⟩ := hle
        rw [hl]
        exact h
      · obtain ⟨_, h⟩ := h
        split at h
        · exact ⟨_, _, _, h.1⟩
        · obtain ⟨a, c, rfl, _⟩ := h; exact ⟨_, _, _, rfl⟩
      · exact h
  | .own id, v, h => by
    simp only [Rel] at h ⊢
    cases hb : H id with
    | none => simp [hb] at h
    | some b =>
      obtain ⟨hp, b', hb', hle⟩ := he id b hb (by rintro rfl; simp [hb] at h)
      rw [hb] at h
      rw [hb', hp]
      cases b <;> cases b' <;> simp only [BlkLe] at hle <;> simp only at h ⊢
      · obtain ⟨rfl, hl⟩ := hle
        rw [hl]
        cases hφ : φ id with
        | none =>
          rw [hφ] at h
          obtain ⟨h1, h2⟩ := h
          exact ⟨h1, List.eq_nil_of_length_eq_zero (by rw [hl, h2]; rfl)⟩
        | some p => rw [hφ] at h; exact h
      · split at h
        · exact ⟨_, _, _, h.1⟩
        · obtain ⟨c, rfl, _⟩ := h; exact ⟨_, _, _, rfl⟩
      · rw [hle]
        exact h
      · split at h
        · exact h.elim
        · obtain ⟨c, rfl, _⟩ := h; exact ⟨_, _, _, rfl⟩
      · exact h
  | .sa id path off n, v, h => by
    simp only [Rel] at h ⊢
    cases hb : H id with
    | none => simp [hb] at h
    | some b =>
      obtain ⟨hp, b', hb', hle⟩ := he id b hb (by rintro rfl; simp [hb] at h)
      rw [hb] at h
      rw [hb', hp]
      cases b <;> cases b' <;> simp only [BlkLe] at hle <;> simp only at h ⊢ <;> first | trivial | exact h | skip
      rw [hle]
      exact h
  | .ptr id path, v, h => by
    simp only [Rel] at h ⊢
    cases hb : H id with
    | none => simp [hb] at h
    | some b =>
      obtain ⟨hp, b', hb', hle⟩ := he id b hb (by rintro rfl; simp [hb] at h)
      rw [hb] at h
      rw [hb', hp]
      cases b <;> cases b' <;> simp only [BlkLe] at hle <;> simp only at h ⊢ <;> first | trivial | exact h | skip
      rw [hle]
      exact h
  | .pe id i path, v, h => by
    simp only [Rel] at h ⊢
    cases hb : H id with
    | none => simp [hb] at h
    | some b =>
      obtain ⟨hp, b', hb', hle⟩ := he id b hb (by rintro rfl; simp [hb] at h)
      rw [hb] at h
      rw [hb', hp]
      cases b <;> cases b' <;> simp only [BlkLe] at hle <;> simp only at h ⊢
      · obtain ⟨rfl, hl⟩ := hle
        rw [hl]
        exact h
      · obtain ⟨b, cap, o, _, _, _, rfl⟩ := h; exact ⟨_, rfl⟩
      · exact h
  | .pes id off n, v, h => by
    simp only [Rel] at h ⊢
    cases hb : H id with
    | none => simp [hb] at h
    | some b =>
      obtain ⟨hp, b', hb', hle⟩ := he id b hb (by rintro rfl; simp [hb] at h)
      rw [hb] at h
      rw [hb', hp]
      cases b <;> cases b' <;> simp only [BlkLe] at hle <;> simp only at h ⊢
      · obtain ⟨rfl, hl⟩ := hle
        rw [hl]
        exact h
      · obtain ⟨_, b, cap, a, _, rfl, _⟩ := h; exact ⟨_, rfl⟩
      · exact h
  | .yl id, v, h => by
    simp only [Rel] at h ⊢
    cases hb : H id with
    | none => simp [hb] at h
    | some b =>
      obtain ⟨hp, b', hb', hle⟩ := he id b hb (by rintro rfl; simp [hb] at h)
      rw [hb] at h
      rw [hb', hp]
      cases b <;> cases b' <;> simp only [BlkLe] at hle <;> simp only at h ⊢ <;> first | trivial | exact h | skip
  | .mp id, v, h => by
    simp only [Rel] at h ⊢
    cases hb : H id with
    | none => simp [hb] at h
    | some b =>
      obtain ⟨hp, b', hb', hle⟩ := he id b hb (by rintro rfl; simp [hb] at h)
      rw [hb] at h
      rw [hb', hp]
      cases b <;> cases b' <;> simp only [BlkLe] at hle <;> simp only at h ⊢ <;> first | trivial | exact h | skip
  | .rp x, v, h => by
    simp only [Rel] at h ⊢
    obtain ⟨ad, u, h1, h2, h3⟩ := h
    exact ⟨ad, u, h1, Rel.monoM he x u h2, h3⟩
  | .fn f l, v, h => by
    simp only [Rel] at h ⊢
    obtain ⟨cs, h1, h2⟩ := h
    exact ⟨cs, h1, RelL.monoM he l cs h2⟩
  | .st l, v, h => by
    simp only [Rel] at h ⊢
    obtain ⟨cs, h1, h2⟩ := h
    exact ⟨cs, RelL.monoM he l cs h1, h2⟩
  | .tup l, v, h => by
    simp only [Rel] at h ⊢
    obtain ⟨cs, h1, h2⟩ := h
    exact ⟨cs, RelL.monoM he l cs h1, h2⟩
theorem RelL.monoM {W : World} {φ φ' : Phi} {H H' : HeapF} (he : HExtM φ H φ' H') : ∀ (l : List AV) (vs : List Value), RelL W φ H l vs → RelL W φ' H' l vs
  | [], [], _ => by simp [RelL]
  | x :: l, v :: vs, h => by
    simp only [RelL] at h ⊢
    exact ⟨Rel.monoM he x v h.1, RelL.monoM he l vs h.2⟩
  | [], _ :: _, h => by simp [RelL] at h
  | _ :: _, [], h => by simp [RelL] at h
end

theorem Rel.mono {W : World} {φ φ' : Phi} {H H' : HeapF} (he : HExt φ H φ' H') : ∀ (x : AV) (v : Value), Rel W φ H x v → Rel W φ' H' x v := Rel.monoM he.toM
theorem RelL.mono {W : World} {φ φ' : Phi} {H H' : HeapF} (he : HExt φ H φ' H') : ∀ (l : List AV) (vs : List Value), RelL W φ H l vs → RelL W φ' H' l vs := RelL.monoM he.toM

theorem RelL.length {W : World} {φ : Phi} {H : HeapF} {l : List AV} {vs : List Value} (h : RelL W φ H l vs) : vs.length = l.length := by
  induction l generalizing vs with
  | nil => cases vs <;> simp_all [RelL]
  | cons x l ih =>
    cases vs with
    | nil => simp [RelL] at h
    | cons v vs => simp only [RelL] at h; simp [ih h.2]

theorem RelL.get {W : World} {φ : Phi} {H : HeapF} {l : List AV} {vs : List Value} (h : RelL W φ H l vs) {i : Nat} {x : AV} (hx : l[i]? = some x) :
    ∃ v, vs[i]? = some v ∧ Rel W φ H x v := by
  induction l generalizing vs i with
  | nil => simp at hx
  | cons y l ih =>
    cases vs with
    | nil => simp [RelL] at h
    | cons v vs =>
      simp only [RelL] at h
      cases i with
      | zero => simp at hx; subst hx; exact ⟨v, by simp, h.1⟩
      | succ i => simp at hx; obtain ⟨u, h1, h2⟩ := ih h.2 hx; exact ⟨u, by simpa using h1, h2⟩

theorem RelL.append {W : World} {φ : Phi} {H : HeapF} {l m : List AV} {vs us : List Value} (h : RelL W φ H l vs) (k : RelL W φ H m us) : RelL W φ H (l ++ m) (vs ++ us) := by
  induction l generalizing vs with
  | nil => cases vs <;> simp_all [RelL]
  | cons x l ih =>
    cases vs with
    | nil => simp [RelL] at h
    | cons v vs => simp only [RelL] at h; simp only [List.cons_append, RelL]; exact ⟨h.1, ih h.2⟩

theorem RelL.set {W : World} {φ : Phi} {H : HeapF} {l : List AV} {vs : List Value} (h : RelL W φ H l vs) {i : Nat} {x : AV} {v : Value} (hx : Rel W φ H x v) : RelL W φ H (l.set i x) (vs.set i v) := by
  induction l generalizing vs i with
  | nil => cases vs <;> simp_all [RelL]
  | cons y l ih =>
    cases vs with
    | nil => simp [RelL] at h
    | cons u vs =>
      simp only [RelL] at h
      cases i with
      | zero => simp only [List.set_cons_zero, RelL]; exact ⟨hx, h.2⟩
      | succ i => simp only [List.set_cons_succ, RelL]; exact ⟨h.1, ih h.2⟩

/-- The cells of a value that may stand in memory. -/
theorem Rel.one {W : World} {φ : Phi} {H : HeapF} {x : AV} {v : Value} (h : Rel W φ H x v) (hs : x.stays = true) (ha : x.isAgg = false) :
    v.cells = #[v] ∧ v.oneCell' = true := by
  cases x with
  | junk => simp [AV.stays] at hs
  | tup l => simp [AV.stays] at hs
  | st l => simp [AV.isAgg] at ha
  | p x =>
    simp only [Rel] at h
    obtain ⟨_, rfl⟩ := h
    simp only [AV.isAgg] at ha
    cases x <;> simp_all [PV.isAgg, PV.val, Value.cells, Value.oneCell']
  | nil => simp only [Rel] at h; subst h; simp [Value.cells, Value.oneCell']
  | nilf => simp only [Rel] at h; subst h; simp [Value.cells, Value.oneCell']
  | nilm => simp only [Rel] at h; subst h; simp [Value.cells, Value.oneCell']
  | ro s l => simp only [Rel] at h; obtain ⟨a, c, rfl, _⟩ := h; simp [Value.cells, Value.oneCell']
  | roA l => simp only [Rel] at h; obtain ⟨a, c, _, rfl, _⟩ := h; simp [Value.cells, Value.oneCell']
  | rp x => simp only [Rel] at h; obtain ⟨a, c, rfl, _⟩ := h; simp [Value.cells, Value.oneCell']
  | fn f l => simp only [Rel] at h; obtain ⟨a, rfl, _⟩ := h; simp [Value.cells, Value.oneCell']
  | sl id off n =>
    simp only [Rel] at h
    split at h
    · obtain ⟨a, n, c, rfl⟩ := h; simp [Value.cells, Value.oneCell']
    · obtain ⟨_, h⟩ := h
      split at h
      · obtain ⟨rfl, _⟩ := h; simp [Value.cells, Value.oneCell']
      · obtain ⟨a, c, rfl, _⟩ := h; simp [Value.cells, Value.oneCell']
    · exact h.elim
  | own id =>
    simp only [Rel] at h
    split at h
    · obtain ⟨a, n, c, rfl⟩ := h; simp [Value.cells, Value.oneCell']
    · split at h
      · obtain ⟨rfl, _⟩ := h; simp [Value.cells, Value.oneCell']
      · obtain ⟨c, rfl, _⟩ := h; simp [Value.cells, Value.oneCell']
    · split at h
      · exact h.elim
      · obtain ⟨c, rfl, _⟩ := h; simp [Value.cells, Value.oneCell']
    · exact h.elim
  | sa id path off n =>
    simp only [Rel] at h
    split at h
    · obtain ⟨b, cap, o, k, s, a, c, _, _, _, _, rfl, _⟩ := h; simp [Value.cells, Value.oneCell']
    · exact h.elim
  | ptr id path =>
    simp only [Rel] at h
    split at h
    · obtain ⟨b, cap, o, _, _, rfl⟩ := h; simp [Value.cells, Value.oneCell']
    · exact h.elim
  | pe id i path =>
    simp only [Rel] at h
    split at h
    · obtain ⟨a, rfl⟩ := h; simp [Value.cells, Value.oneCell']
    · obtain ⟨b, cap, o, _, _, _, rfl⟩ := h; simp [Value.cells, Value.oneCell']
    · exact h.elim
  | pes id off n =>
    simp only [Rel] at h
    split at h
    · obtain ⟨a, rfl⟩ := h; simp [Value.cells, Value.oneCell']
    · obtain ⟨_, b, cap, a, _, rfl, _⟩ := h; simp [Value.cells, Value.oneCell']
    · exact h.elim
  | yl id =>
    simp only [Rel] at h
    split at h
    · obtain ⟨_, _, _, rfl⟩ := h; simp [Value.cells, Value.oneCell']
    · exact h.elim
  | mp id =>
    simp only [Rel] at h
    split at h
    · obtain ⟨_, _, _, rfl⟩ := h; simp [Value.cells, Value.oneCell']
    · exact h.elim

end Go.Proofs.YtipmkjfbdflneaaDoor.AM

namespace Go.Proofs.YtipmkjfbdflneaaDoor.AM
open Go Go.RowKit

theorem upd_same {α : Type} (f : Nat → α) (i : Nat) (v : α) : upd f i v i = v := by simp [upd]
theorem upd_ne {α : Type} (f : Nat → α) {i j : Nat} (v : α) (h : j ≠ i) : upd f i v j = f j := by simp [upd, h]

def LSt.state : LSt → LoopState
  | .ready => .ready
  | .busy => .busy
  | .ret => .done
  | .exit _ => .done
  | .ex => .exhausted

def LSt.pend : LSt → Option Code → Prop
  | .ready, p => p = none
  | .busy, p => p = none
  | .ret, p => p = some .ret
  | .exit i, p => p = some (.exit i)
  | .ex, _ => True

def BlkOK (W : World) (φ : Phi) (H : HeapF) (w : World) (id : Nat) : Blk → Prop
  | .dead => True
  | .var x => x.stays = true ∧ ∃ b c cs T v, φ id = some (b, c) ∧ w.heap[b]? = some (.cells cs T (0, 0)) ∧ Rel W φ H x v ∧ v.cells = cs
  | .els rw s l => PV.okL l ∧ PV.allSh s l ∧ match φ id with
    | none => l = []
    | some (b, cap) => ∃ cs T fr, w.heap[b]? = some (.cells cs T fr) ∧ cap * s.size ≤ cs.size ∧ l.length ≤ cap ∧ cap ≤ maxLen ∧
        cs.toList.take (PV.cellsL l).length = PV.cellsL l ∧ (rw = true → fr = (0, 0))
  | .elsA l => ∃ b cap cs T fr vs, φ id = some (b, cap) ∧ w.heap[b]? = some (.cells cs T fr) ∧ RelL W φ H l vs ∧ (∀ x ∈ l, x.isAgg = false ∧ x.stays = true) ∧
      cs.toList.take vs.length = vs
  | .lp ps a' b' e n s => ∃ b c r, φ id = some (b, c) ∧ w.heap[b]? = some (.loop r) ∧ r.state = s.state ∧ s.pend r.pending ∧ r.params = ps ∧ r.assign = a' ∧ r.body = b' ∧ r.tmps.size = n ∧
      ∀ t, Rel W φ H (get e t) (r.tmps.getD t undef)
  | .mk => ∃ b c, φ id = some (b, c) ∧ w.heap[b]? = some (.deferred (some []))
  | .mp l => ∃ b c es clock, φ id = some (b, c) ∧ w.heap[b]? = some (.map es clock) ∧ es.toList.map (fun e => (e.key, e.val)) = l.map fun s => (.string s, .bool true)

structure HSim (W : World) (φ : Phi) (H : HeapF) (w : World) : Prop where
  below : Below W.heap.size W w
  blk : ∀ id blk, H id = some blk → BlkOK W φ H w id blk
  ge : ∀ id blk b c, H id = some blk → φ id = some (b, c) → W.heap.size ≤ b
  dis : ∀ i j x y b c c', H i = some x → H j = some y → x ≠ .dead → y ≠ .dead → i ≠ j → φ i = some (b, c) → φ j = some (b, c') → False

theorem BlkOK.lt {W : World} {φ : Phi} {H : HeapF} {w : World} {id : Nat} {blk : Blk} (h : BlkOK W φ H w id blk) (hd : blk ≠ .dead) {b c : Nat} (hφ : φ id = some (b, c)) :
    b < w.heap.size := by
  cases blk with
  | dead => exact absurd rfl hd
  | var x =>
    obtain ⟨_, b', c', cs, T, v, h1, h2, _⟩ := h
    rw [hφ] at h1
    cases h1
    exact (Array.getElem?_eq_some_iff.1 h2).1
  | els rw s l =>
    obtain ⟨_, _, h⟩ := h
    rw [hφ] at h
    obtain ⟨cs, T, fr, h2, _⟩ := h
    exact (Array.getElem?_eq_some_iff.1 h2).1
  | elsA l =>
    obtain ⟨b', c', cs, T, fr, vs, h1, h2, _⟩ := h
    rw [hφ] at h1
    cases h1
    exact (Array.getElem?_eq_some_iff.1 h2).1
  | lp ps a b e n s =>
    obtain ⟨b', c', r, h1, h2, _⟩ := h
    rw [hφ] at h1
    cases h1
    exact (Array.getElem?_eq_some_iff.1 h2).1
  | mk =>
    obtain ⟨b', c', h1, h2⟩ := h
    rw [hφ] at h1
    cases h1
    exact (Array.getElem?_eq_some_iff.1 h2).1
  | mp l =>
    obtain ⟨b', c', es, k, h1, h2, _⟩ := h
    rw [hφ] at h1
    cases h1
    exact (Array.getElem?_eq_some_iff.1 h2).1

theorem BlkOK.keepM {W : World} {φ φ' : Phi} {H H' : HeapF} {w w' : World} {id : Nat} {blk : Blk} (h : BlkOK W φ H w id blk) (he : HExtM φ H φ' H') (hp : φ' id = φ id)
    (hw : blk ≠ .dead → ∀ b c, φ id = some (b, c) → w'.heap[b]? = w.heap[b]?) : BlkOK W φ' H' w' id blk := by
  cases blk with
  | dead => trivial
  | var x =>
    obtain ⟨h0, b, c, cs, T, v, h1, h2, h3, h4⟩ := h
    exact ⟨h0, b, c, cs, T, v, hp.trans h1, (hw (by simp) b c h1).trans h2, Rel.monoM he _ _ h3, h4⟩
  | els rw s l =>
    obtain ⟨h1, h2, h⟩ := h
    refine ⟨h1, h2, ?_⟩
    rw [hp]
    cases hφ : φ id with
    | none => rw [hφ] at h; exact h
    | some p =>
      obtain ⟨b, c⟩ := p
      rw [hφ] at h
      obtain ⟨cs, T, fr, h3, h4⟩ := h
      exact ⟨cs, T, fr, (hw (by simp) b c hφ).trans h3, h4⟩
  | elsA l =>
    obtain ⟨b, c, cs, T, fr, vs, h1, h2, h3, h4⟩ := h
    exact ⟨b, c, cs, T, fr, vs, hp.trans h1, (hw (by simp) b c h1).trans h2, RelL.monoM he _ _ h3, h4⟩
  | lp ps a' b' e n s =>
    obtain ⟨b, c, r, h1, h2, h3, h4, h5, h6, h7, h8, h9⟩ := h
    exact ⟨b, c, r, hp.trans h1, (hw (by simp) b c h1).trans h2, h3, h4, h5, h6, h7, h8, fun t => Rel.monoM he _ _ (h9 t)⟩
  | mk =>
    obtain ⟨b, c, h1, h2⟩ := h
    exact ⟨b, c, hp.trans h1, (hw (by simp) b c h1).trans h2⟩
  | mp l =>
    obtain ⟨b, c, es, k, h1, h2, h3⟩ := h
    exact ⟨b, c, es, k, hp.trans h1, (hw (by simp) b c h1).trans h2, h3⟩

theorem BlkOK.keep {W : World} {φ φ' : Phi} {H H' : HeapF} {w w' : World} {id : Nat} {blk : Blk} (h : BlkOK W φ H w id blk) (he : HExt φ H φ' H') (hp : φ' id = φ id)
    (hw : blk ≠ .dead → ∀ b c, φ id = some (b, c) → w'.heap[b]? = w.heap[b]?) : BlkOK W φ' H' w' id blk := h.keepM he.toM hp hw

/-- The memory has gone on, and nothing that was there has turned. -/
theorem HSim.later {W : World} {φ : Phi} {H : HeapF} {w w' : World} (h : HSim W φ H w) (hb : Below w.heap.size w w') : HSim W φ H w' where
  below := h.below.trans (hb.mono h.below.size)
  blk := fun id blk hi => (h.blk id blk hi).keep (HExt.refl _ _) rfl (fun hd b _c hφ => hb.block b ((h.blk id blk hi).lt hd hφ))
  ge := h.ge
  dis := h.dis

theorem HSim.drew {W : World} {φ : Phi} {H : HeapF} {w : World} (h : HSim W φ H w) : HSim W φ H w.drew := h.later (Below.refl _ _).drew

/-- A new block. -/
theorem HSim.add {W : World} {φ : Phi} {H : HeapF} {w w' : World} {id : Nat} {blk : Blk} {pc : Option (Nat × Nat)} (h : HSim W φ H w) (hb : Below w.heap.size w w') (hn : H id = none)
    (hok : BlkOK W (upd φ id pc) (upd H id (some blk)) w' id blk) (hge : ∀ b c, pc = some (b, c) → w.heap.size ≤ b) :
    HSim W (upd φ id pc) (upd H id (some blk)) w' ∧ HExt φ H (upd φ id pc) (upd H id (some blk)) := by
  have he : HExt φ H (upd φ id pc) (upd H id (some blk)) := fun i x hx => by
    have hne : i ≠ id := fun e => by rw [e, hn] at hx; cases hx
    exact ⟨upd_ne _ _ hne, x, (upd_ne _ _ hne).trans hx, BlkLe.refl x⟩
  refine ⟨⟨h.below.trans (hb.mono h.below.size), fun i x hx => ?_, fun i x b c hx hφ => ?_, fun i j x y b c c' hx hy dx dy hij hi hj => ?_⟩, he⟩
  · by_cases hi : i = id
    · subst hi
      rw [upd_same] at hx
      cases hx
      exact hok
    · rw [upd_ne _ _ hi] at hx
      exact (h.blk i x hx).keep he (upd_ne _ _ hi) (fun hd b c hφ => hb.block b ((h.blk i x hx).lt hd hφ))
  · by_cases hi : i = id
    · subst hi
      rw [upd_same] at hφ
      exact Nat.le_trans h.below.size (hge b c hφ)
    · rw [upd_ne _ _ hi] at hx hφ
      exact h.ge i x b c hx hφ
  · by_cases hi' : i = id
    · subst hi'
      rw [upd_same] at hi
      have hj' : j ≠ i := fun e => hij e.symm
      rw [upd_ne _ _ hj'] at hy hj
      have h1 := (h.blk j y hy).lt dy hj
      have h2 := hge b c hi
      omega
    · rw [upd_ne _ _ hi'] at hx hi
      by_cases hj' : j = id
      · subst hj'
        rw [upd_same] at hj
        have h1 := (h.blk i x hx).lt dx hi
        have h2 := hge b c' hj
        omega
      · rw [upd_ne _ _ hj'] at hy hj
        exact h.dis i j x y b c c' hx hy dx dy hij hi hj

/-- A block is written. -/
theorem HSim.mod {W : World} {φ : Phi} {H : HeapF} {w w' : World} {id : Nat} {blk blk' : Blk} {b c : Nat} (h : HSim W φ H w) (hi : H id = some blk) (hd : blk ≠ .dead) (hφ : φ id = some (b, c))
    (hos : w'.os = w.os) (htape : w'.tape = w.tape) (hout : w'.output = w.output) (hsz : w'.heap.size = w.heap.size) (hoth : ∀ k, k ≠ b → w'.heap[k]? = w.heap[k]?)
    (hle : BlkLe blk blk') (hok : BlkOK W φ (upd H id (some blk')) w' id blk') :
    HSim W φ (upd H id (some blk')) w' ∧ HExt φ H φ (upd H id (some blk')) := by
  have he : HExt φ H φ (upd H id (some blk')) := fun i x hx => by
    refine ⟨rfl, ?_⟩
    by_cases hi' : i = id
    · subst hi'
      rw [hi] at hx
      cases hx
      exact ⟨blk', upd_same _ _ _, hle⟩
    · exact ⟨x, (upd_ne _ _ hi').trans hx, BlkLe.refl x⟩
  have hgeb := h.ge id blk b c hi hφ
  refine ⟨⟨h.below.trans ⟨hos, htape, hout, Nat.le_of_eq hsz.symm, fun k hk => hoth k (by omega)⟩, fun i x hx => ?_, fun i x b' c' hx hφ' => ?_, fun i j x y b' c1 c2 hx hy dx dy hij h1 h2 => ?_⟩, he⟩
  · by_cases hi' : i = id
    · subst hi'
      rw [upd_same] at hx
      cases hx
      exact hok
    · rw [upd_ne _ _ hi'] at hx
      refine (h.blk i x hx).keep he rfl (fun dx b' c' hφ' => hoth b' (fun e => ?_))
      subst e
      exact h.dis i id x blk b' c' c hx hi dx hd hi' hφ' hφ
  · by_cases hi' : i = id
    · subst hi'
      exact h.ge i blk b' c' hi hφ'
    · rw [upd_ne _ _ hi'] at hx
      exact h.ge i x b' c' hx hφ'
  · have old : ∀ i x, upd H id (some blk') i = some x → x ≠ .dead → ∃ x0, H i = some x0 ∧ x0 ≠ .dead := fun i x hx dx => by
      by_cases hi' : i = id
      · subst hi'; exact ⟨blk, hi, hd⟩
      · rw [upd_ne _ _ hi'] at hx; exact ⟨x, hx, dx⟩
    obtain ⟨x0, g1, g2⟩ := old i x hx dx
    obtain ⟨y0, g3, g4⟩ := old j y hy dy
    exact h.dis i j x0 y0 b' c1 c2 g1 g3 g2 g4 hij h1 h2

/-- A slice's block that nobody uses any more. -/
theorem HSim.kill {W : World} {φ : Phi} {H : HeapF} {w : World} {id : Nat} {blk : Blk} (h : HSim W φ H w) (hi : H id = some blk) (hle : BlkLe blk .dead) :
    HSim W φ (upd H id (some .dead)) w ∧ HExt φ H φ (upd H id (some .dead)) := by
  have he : HExt φ H φ (upd H id (some .dead)) := fun i x hx => by
    refine ⟨rfl, ?_⟩
    by_cases hi' : i = id
    · subst hi'
      rw [hi] at hx
      cases hx
      exact ⟨.dead, upd_same _ _ _, hle⟩
    · exact ⟨x, (upd_ne _ _ hi').trans hx, BlkLe.refl x⟩
  refine ⟨⟨h.below, fun i x hx => ?_, fun i x b' c' hx hφ' => ?_, fun i j x y b' c1 c2 hx hy dx dy hij h1 h2 => ?_⟩, he⟩
  · by_cases hi' : i = id
    · subst hi'
      rw [upd_same] at hx
      cases hx
      trivial
    · rw [upd_ne _ _ hi'] at hx
      exact (h.blk i x hx).keep he rfl (fun _ _ _ _ => rfl)
  · by_cases hi' : i = id
    · subst hi'
      exact h.ge i blk b' c' hi hφ'
    · rw [upd_ne _ _ hi'] at hx
      exact h.ge i x b' c' hx hφ'
  · have old : ∀ i x, upd H id (some .dead) i = some x → x ≠ .dead → H i = some x := fun i x hx dx => by
      by_cases hi' : i = id
      · subst hi'; rw [upd_same] at hx; cases hx; exact absurd rfl dx
      · rw [upd_ne _ _ hi'] at hx; exact hx
    exact h.dis i j x y b' c1 c2 (old i x hx dx) (old j y hy dy) dx dy hij h1 h2

/-- The cells of a whole variable. -/
theorem AddrAdd (b o j : Nat) : (⟨b, o, none⟩ : Addr).add j = ⟨b, o + j, none⟩ := by unfold Addr.add; split <;> simp_all

theorem addAdd (a : Addr) (n m : Nat) : (a.add n).add m = a.add (n + m) := by
  unfold Addr.add
  by_cases h1 : n = 0
  · subst h1; simp
  · by_cases h2 : m = 0
    · subst h2; simp
    · rw [if_neg h1, if_neg h2, if_neg (by omega)]
      simp [Nat.add_assoc]

theorem RowAt.part {W : World} {a : Addr} {pre cs post : List Value} (h : RowAt W a (pre ++ (cs ++ post))) : RowAt W (a.add pre.length) cs := fun j c hj => by
  rw [addAdd]
  refine h (pre.length + j) c ?_
  rw [List.getElem?_append_right (by omega), Nat.add_sub_cancel_left, List.getElem?_append_left (List.getElem?_eq_some_iff.1 hj).1]
  exact hj

theorem RowAt.later {W w : World} {a : Addr} {cs : List Value} (h : RowAt W a cs) (hb : Below W.heap.size W w) : RowAt w a cs := fun j c hj => by
  have := h j c hj
  rw [hb.cell (World.block_lt_of_cell? _ _ this)]
  exact this

theorem rowOfBlock {w : World} {b : Nat} {cs : Array Value} {T : TypeId} {fr : Nat × Nat} (h : w.heap[b]? = some (.cells cs T fr)) : RowAt w ⟨b, 0, none⟩ cs.toList := fun j c hj => by
  rw [AddrAdd, Nat.zero_add, cell_of_row w b j cs T fr h]
  simpa using hj

end Go.Proofs.YtipmkjfbdflneaaDoor.AM

namespace Go.Proofs.YtipmkjfbdflneaaDoor.AM
open Go Go.RowKit

def KindOK (P : Program) (t : Nat) : TK → Prop
  | .int k => P.underlying t = some (.int k)
  | .bool => P.underlying t = some .bool
  | .str => P.underlying t = some .string
  | .slice e => P.underlying t = some (.slice e)
  | .arr n e => P.underlying t = some (.array n e) ∧ P.eqGuardType P.depth t = false
  | .st fs => ∃ fields, P.underlying t = some (.struct fields) ∧ fields.toList.map (fun f => (f.offset, f.type)) = fs ∧ P.stoodInHeld t = false ∧ P.eqGuardType P.depth t = false ∧
      (∀ f ∈ fields.toList, f.name ≠ "_") ∧ ∀ f ∈ fields.toList, ∃ i, P.info? f.type = some i
  | .ptr e => P.underlying t = some (.pointer e)
  | .map k e => P.underlying t = some (.map k e)
  | .other => True

structure TDok (P : Program) (t : Nat) (d : TD) : Prop where
  info : ∃ i, P.info? t = some i ∧ i.size = d.size ∧ i.bytes = d.bytes ∧
    ∀ z, d.zero = some z → z.stays = true ∧ z.sh.size = d.size ∧ ∃ zv, i.zero = some zv ∧ ∀ W φ H, Rel W φ H z zv
  kind : KindOK P t d.kind
  agg : (isAgg t).run P = fun w => .ok d.agg w

def Ctx.ok (P : Program) (X : Ctx) : Prop := ∀ t d, X.at t = some d → TDok P t d

def GlobOK (W : World) (G : Globs) : Prop := ∀ g x, (g, x) ∈ G → x.ok ∧ RowAt W ⟨g, 0, none⟩ x.cells

theorem TDok.sizeOf {P : Program} {t : Nat} {d : TD} (h : TDok P t d) (w : World) : (Go.sizeOf t).run P w = .ok d.size w := by
  obtain ⟨i, h1, h2, _⟩ := h.info
  simp [Go.sizeOf, typeInfo, h1, h2]

mutual
theorem Rel.size {W : World} {φ : Phi} {H : HeapF} : ∀ (x : AV) (v : Value), Rel W φ H x v → x.stays = true → v.cells.size = x.sh.size
  | .p x, v, h, _ => by
    simp only [Rel] at h
    obtain ⟨h1, rfl⟩ := h
    rw [PV.cells_val]
    simp only [List.size_toArray, AV.sh]
    exact PV.cells_length x h1
  | .st l, v, h, _ => by
    simp only [Rel] at h
    obtain ⟨vs, h1, h2, rfl⟩ := h
    simp only [Value.cells, List.size_toArray, AV.sh, Sh.size]
    exact Rel.sizeL l vs h1 h2
  | .junk, _, _, hs => by simp [AV.stays] at hs
  | .tup _, _, _, hs => by simp [AV.stays] at hs
  | .nil, v, h, hs => by rw [(Rel.one h hs rfl).1]; rfl
  | .nilf, v, h, hs => by rw [(Rel.one h hs rfl).1]; rfl
  | .nilm, v, h, hs => by rw [(Rel.one h hs rfl).1]; rfl
  | .ro s l, v, h, hs => by rw [(Rel.one h hs rfl).1]; rfl
  | .roA l, v, h, hs => by rw [(Rel.one h hs rfl).1]; rfl
  | .sl _ _ _, v, h, hs => by rw [(Rel.one h hs rfl).1]; rfl
  | .own _, v, h, hs => by rw [(Rel.one h hs rfl).1]; rfl
  | .sa _ _ _ _, v, h, hs => by rw [(Rel.one h hs rfl).1]; rfl
  | .ptr _ _, v, h, hs => by rw [(Rel.one h hs rfl).1]; rfl
  | .pe _ _ _, v, h, hs => by rw [(Rel.one h hs rfl).1]; rfl
  | .pes _ _ _, v, h, hs => by rw [(Rel.one h hs rfl).1]; rfl
  | .rp _, v, h, hs => by rw [(Rel.one h hs rfl).1]; rfl
  | .fn _ _, v, h, hs => by rw [(Rel.one h hs rfl).1]; rfl
  | .yl _, v, h, hs => by rw [(Rel.one h hs rfl).1]; rfl
  | .mp _, v, h, hs => by rw [(Rel.one h hs rfl).1]; rfl
theorem Rel.sizeL {W : World} {φ : Phi} {H : HeapF} : ∀ (l : List AV) (vs : List Value), RelL W φ H l vs → (∀ x ∈ l, x.stays = true) → (vs.flatMap fun u => u.cells.toList).length = Sh.sizeL (AV.shL l)
  | [], [], _, _ => by simp [AV.shL, Sh.sizeL]
  | x :: l, v :: vs, h, hs => by
    simp only [RelL] at h
    simp only [List.flatMap_cons, List.length_append, AV.shL, Sh.sizeL]
    rw [Rel.sizeL l vs h.2 (fun y hy => hs y (by simp [hy]))]
    have := Rel.size x v h.1 (hs x (by simp))
    simp [this]
  | [], _ :: _, h, _ => by simp [RelL] at h
  | _ :: _, [], h, _ => by simp [RelL] at h
end

/-- A value that may stand in memory: an aggregate's cells, or the one cell. -/
theorem Rel.cases {W : World} {φ : Phi} {H : HeapF} {x : AV} {v : Value} (h : Rel W φ H x v) (hs : x.stays = true) :
    (x.isAgg = true ∧ v = .agg v.cells) ∨ (x.isAgg = false ∧ v.cells = #[v]) := by
  cases ha : x.isAgg with
  | false => exact .inr ⟨rfl, (Rel.one h hs ha).1⟩
  | true =>
    refine .inl ⟨rfl, ?_⟩
    cases x with
    | p x =>
      simp only [Rel] at h
      obtain ⟨_, rfl⟩ := h
      rw [PV.cells_val]
      exact PV.val_agg x ha
    | st l =>
      simp only [Rel] at h
      obtain ⟨vs, _, _, rfl⟩ := h
      simp [Value.cells]
    | _ => simp [AV.isAgg] at ha

mutual
theorem PV.cells_oneCell : ∀ (x : PV), ∀ c ∈ x.cells, c.oneCell' = true
  | .i k m, c, hc => by simp [PV.cells] at hc; subst hc; rfl
  | .b y, c, hc => by simp [PV.cells] at hc; subst hc; rfl
  | .str s, c, hc => by simp [PV.cells] at hc; subst hc; rfl
  | .arr _ _ l, c, hc => by simp only [PV.cells] at hc; exact PV.cellsL_oneCell l c hc
  | .st l, c, hc => by simp only [PV.cells] at hc; exact PV.cellsL_oneCell l c hc
theorem PV.cellsL_oneCell : ∀ (l : List PV), ∀ c ∈ PV.cellsL l, c.oneCell' = true
  | [], c, hc => by simp [PV.cellsL] at hc
  | y :: l, c, hc => by
    simp only [PV.cellsL, List.mem_append] at hc
    rcases hc with hc | hc
    · exact PV.cells_oneCell y c hc
    · exact PV.cellsL_oneCell l c hc
end

theorem cells_agg (cs : Array Value) : (Value.agg cs).cells = cs := rfl

theorem Rel.plain {W : World} {φ : Phi} {H : HeapF} {x : PV} (h : x.ok) : Rel W φ H (.p x) x.val := by
  unfold Rel
  exact ⟨h, rfl⟩

mutual
theorem Rel.oneCells {W : World} {φ : Phi} {H : HeapF} : ∀ (x : AV) (v : Value), Rel W φ H x v → x.stays = true → ∀ c ∈ v.cells.toList, c.oneCell' = true
  | .p x, v, h, _ => by
    simp only [Rel] at h
    obtain ⟨h1, rfl⟩ := h
    rw [PV.cells_val_list]
    exact PV.cells_oneCell x
  | .st l, v, h, _ => by
    simp only [Rel] at h
    obtain ⟨vs, h1, h2, rfl⟩ := h
    simp only [Value.cells]
    exact Rel.oneCellsL l vs h1 h2
  | .junk, _, _, hs => by simp [AV.stays] at hs
  | .tup _, _, _, hs => by simp [AV.stays] at hs
  | .nil, v, h, hs => by have := Rel.one h hs rfl; rw [this.1]; simpa using this.2
  | .nilf, v, h, hs => by have := Rel.one h hs rfl; rw [this.1]; simpa using this.2
  | .nilm, v, h, hs => by have := Rel.one h hs rfl; rw [this.1]; simpa using this.2
  | .ro s l, v, h, hs => by have := Rel.one h hs rfl; rw [this.1]; simpa using this.2
  | .roA l, v, h, hs => by have := Rel.one h hs rfl; rw [this.1]; simpa using this.2
  | .sl _ _ _, v, h, hs => by have := Rel.one h hs rfl; rw [this.1]; simpa using this.2
  | .own _, v, h, hs => by have := Rel.one h hs rfl; rw [this.1]; simpa using this.2
  | .sa _ _ _ _, v, h, hs => by have := Rel.one h hs rfl; rw [this.1]; simpa using this.2
  | .ptr _ _, v, h, hs => by have := Rel.one h hs rfl; rw [this.1]; simpa using this.2
  | .pe _ _ _, v, h, hs => by have := Rel.one h hs rfl; rw [this.1]; simpa using this.2
  | .pes _ _ _, v, h, hs => by have := Rel.one h hs rfl; rw [this.1]; simpa using this.2
  | .rp _, v, h, hs => by have := Rel.one h hs rfl; rw [this.1]; simpa using this.2
  | .fn _ _, v, h, hs => by have := Rel.one h hs rfl; rw [this.1]; simpa using this.2
  | .yl _, v, h, hs => by have := Rel.one h hs rfl; rw [this.1]; simpa using this.2
  | .mp _, v, h, hs => by have := Rel.one h hs rfl; rw [this.1]; simpa using this.2
theorem Rel.oneCellsL {W : World} {φ : Phi} {H : HeapF} : ∀ (l : List AV) (vs : List Value), RelL W φ H l vs → (∀ x ∈ l, x.stays = true) → ∀ c ∈ (vs.flatMap fun u => u.cells.toList), c.oneCell' = true
  | [], [], _, _ => by simp
  | x :: l, v :: vs, h, hs => by
    simp only [RelL] at h
    intro c hc
    simp only [List.flatMap_cons, List.mem_append] at hc
    rcases hc with hc | hc
    · exact Rel.oneCells x v h.1 (hs x (by simp)) c hc
    · exact Rel.oneCellsL l vs h.2 (fun y hy => hs y (by simp [hy])) c hc
  | [], _ :: _, h, _ => by simp [RelL] at h
  | _ :: _, [], h, _ => by simp [RelL] at h
end

theorem AV.shL_get {l : List AV} {f : Nat} {x : AV} (h : l[f]? = some x) : (AV.shL l)[f]? = some x.sh := by
  induction l generalizing f with
  | nil => simp at h
  | cons y l ih =>
    cases f with
    | zero => simp at h; subst h; simp [AV.shL]
    | succ f => simp at h; simp [AV.shL, ih h]

theorem AV.shL_take (l : List AV) (f : Nat) : (AV.shL l).take f = AV.shL (l.take f) := by
  induction l generalizing f with
  | nil => simp [AV.shL]
  | cons y l ih =>
    cases f with
    | zero => simp [AV.shL]
    | succ f => simp [AV.shL, ih]

theorem AV.shL_set {l : List AV} {f : Nat} {x y : AV} (h : l[f]? = some x) (hs : y.sh = x.sh) : AV.shL (l.set f y) = AV.shL l := by
  induction l generalizing f with
  | nil => simp
  | cons z l ih =>
    cases f with
    | zero => simp at h; subst h; simp [AV.shL, hs]
    | succ f => simp at h; simp [AV.shL, ih h]

theorem RelL.take {W : World} {φ : Phi} {H : HeapF} {l : List AV} {vs : List Value} (h : RelL W φ H l vs) (n : Nat) : RelL W φ H (l.take n) (vs.take n) := by
  induction l generalizing vs n with
  | nil => cases vs <;> simp_all [RelL]
  | cons x l ih =>
    cases vs with
    | nil => simp [RelL] at h
    | cons v vs =>
      simp only [RelL] at h
      cases n with
      | zero => simp [RelL]
      | succ n => simp only [List.take_succ_cons, RelL]; exact ⟨h.1, ih h.2 n⟩

/-- The value at a place of a value in memory. -/
theorem navA_spec {W : World} {φ : Phi} {H : HeapF} : ∀ (path : List Nat) (x y : AV) (v : Value), Rel W φ H x v → x.stays = true → navA x path = some y →
    y.stays = true ∧ shS x.sh path = some y.sh ∧ ∃ u o pre post, Rel W φ H y u ∧ offS x.sh path = some o ∧ pre.length = o ∧ v.cells.toList = pre ++ (u.cells.toList ++ post) ∧
      ∀ y' u' z, Rel W φ H y' u' → y'.stays = true → y'.sh = y.sh → setA x path y' = some z →
        z.stays = true ∧ z.sh = x.sh ∧ ∃ v', Rel W φ H z v' ∧ v'.cells.toList = pre ++ (u'.cells.toList ++ post)
  | [], x, y, v, hv, hs, h => by
    have h' : x = y := by cases x <;> simpa [navA] using h
    subst h'
    refine ⟨hs, by cases x.sh <;> rfl, v, 0, [], [], hv, by cases x.sh <;> rfl, rfl, by simp, fun y' u' z hy' hs' hsh hz => ?_⟩
    have hz' : y' = z := by cases x <;> cases y' <;> simpa [setA] using hz
    subst hz'
    exact ⟨hs', hsh, u', hy', by simp⟩
  | f :: r, .p x, y, v, hv, hs, h => by
    simp only [navA] at h
    cases hn : nav x (f :: r) with
    | none => simp [hn] at h
    | some y0 =>
      simp only [hn, Option.some.injEq] at h
      subst h
      simp only [Rel] at hv
      obtain ⟨hx, rfl⟩ := hv
      obtain ⟨h1, h2, o, pre, post, h3, h4, h5, h6⟩ := nav_spec _ _ _ hx hn
      refine ⟨rfl, h2, y0.val, o, pre, post, Rel.plain h1, h3, h4, by rw [PV.cells_val_list, PV.cells_val_list, h5], fun y' u' z hy' hs' hsh hz => ?_⟩
      cases y' with
      | p v' =>
        simp only [setA] at hz
        cases hset : setP x (f :: r) v' with
        | none => simp [hset] at hz
        | some z0 =>
          simp only [hset, Option.some.injEq] at hz
          subst hz
          simp only [Rel] at hy'
          obtain ⟨g1, rfl⟩ := hy'
          obtain ⟨g2, g3, g4⟩ := h6 v' z0 g1 hsh hset
          exact ⟨rfl, g3, z0.val, Rel.plain g2, by rw [PV.cells_val_list, PV.cells_val_list, g4]⟩
      | _ => simp [setA] at hz
  | f :: r, .st l, y, v, hv, hs, h => by
    simp only [navA] at h
    cases hl : l[f]? with
    | none => simp [hl] at h
    | some x =>
      simp only [hl] at h
      simp only [Rel] at hv
      obtain ⟨vs, hvs, hst, rfl⟩ := hv
      obtain ⟨vx, hvx, hrx⟩ := hvs.get hl
      obtain ⟨h1, h2, u, o, pre, post, h3, h4, h5, h6, h7⟩ := navA_spec r x y vx hrx (hst x (List.mem_of_getElem? hl)) h
      obtain ⟨c1, c2⟩ := cut_at hvx
      refine ⟨h1, by simp [shS, AV.sh, AV.shL_get hl, h2], u, Sh.sizeL ((AV.shL l).take f) + o, (vs.take f).flatMap (fun u => u.cells.toList) ++ pre, post ++ (vs.drop (f + 1)).flatMap (fun u => u.cells.toList), h3, ?_, ?_, ?_, ?_⟩
      · simp [offS, AV.sh, AV.shL_get hl, h4]
      · rw [List.length_append, h5, AV.shL_take, Rel.sizeL _ _ (hvs.take f) (fun y hy => hst y (List.mem_of_mem_take hy))]
      · rw [cells_agg]
        conv => lhs; rw [c1]
        simp [h6]
      · intro y' u' z hy' hs' hsh hz
        simp only [setA, hl] at hz
        cases hset : setA x r y' with
        | none => simp [hset] at hz
        | some x' =>
          simp only [hset, Option.some.injEq] at hz
          subst hz
          obtain ⟨g1, g2, v', g3, g4⟩ := h7 y' u' x' hy' hs' hsh hset
          refine ⟨rfl, by simp [AV.sh, AV.shL_set hl g2], .agg ((vs.set f v').flatMap fun u => u.cells.toList).toArray, ?_, ?_⟩
          · simp only [Rel]
            refine ⟨vs.set f v', hvs.set g3, fun a ha => ?_, rfl⟩
            rcases List.mem_or_eq_of_mem_set ha with ha | ha
            · exact hst a ha
            · subst ha; exact g1
          · rw [cells_agg]
            rw [c2 v']
            simp [g4]
  | _ :: _, .junk, _, _, _, _, h => by simp [navA] at h
  | _ :: _, .tup _, _, _, _, _, h => by simp [navA] at h
  | _ :: _, .nil, _, _, _, _, h => by simp [navA] at h
  | _ :: _, .nilf, _, _, _, _, h => by simp [navA] at h
  | _ :: _, .nilm, _, _, _, _, h => by simp [navA] at h
  | _ :: _, .ro _ _, _, _, _, _, h => by simp [navA] at h
  | _ :: _, .roA _, _, _, _, _, h => by simp [navA] at h
  | _ :: _, .sl _ _ _, _, _, _, _, h => by simp [navA] at h
  | _ :: _, .own _, _, _, _, _, h => by simp [navA] at h
  | _ :: _, .sa _ _ _ _, _, _, _, _, h => by simp [navA] at h
  | _ :: _, .ptr _ _, _, _, _, _, h => by simp [navA] at h
  | _ :: _, .pe _ _ _, _, _, _, _, h => by simp [navA] at h
  | _ :: _, .pes _ _ _, _, _, _, _, h => by simp [navA] at h
  | _ :: _, .rp _, _, _, _, _, h => by simp [navA] at h
  | _ :: _, .fn _ _, _, _, _, _, h => by simp [navA] at h
  | _ :: _, .yl _, _, _, _, _, h => by simp [navA] at h
  | _ :: _, .mp _, _, _, _, _, h => by simp [navA] at h

end Go.Proofs.YtipmkjfbdflneaaDoor.AM

namespace Go.Proofs.YtipmkjfbdflneaaDoor.AM
open Go Go.RowKit

variable {P : Program} {X : Ctx} {W : World} {φ : Phi} {H L : HeapF} {w : World} {ρ : Nat → AV} {a : Act}

def EnvOK (W : World) (φ : Phi) (H : HeapF) (ρ : Nat → AV) (a : Act) : Prop := ∀ t, Rel W φ H (ρ t) (a.tmps.getD t undef)

theorem EnvOK.mono {φ' : Phi} {H' : HeapF} (h : EnvOK W φ H ρ a) (he : HExt φ H φ' H') : EnvOK W φ' H' ρ a := fun t => Rel.mono he _ _ (h t)

theorem globAt_ok {G : Globs} (hG : GlobOK W G) (g : Nat) : Rel W φ H (globAt G g) (.pointer (some ⟨g, 0, none⟩)) := by
  induction G with
  | nil => simp [globAt, Rel]
  | cons e G ih =>
    obtain ⟨h, x⟩ := e
    simp only [globAt]
    cases hb : Nat.beq h g with
    | false => exact ih fun g' x' hm => hG g' x' (by simp [hm])
    | true =>
      have := Nat.eq_of_beq_eq_true hb
      subst this
      obtain ⟨h1, h2⟩ := hG h x (by simp)
      simp only
      unfold Rel
      exact ⟨⟨h, 0, none⟩, x.val, rfl, Rel.plain h1, rfl, by rw [PV.cells_val_list]; exact h2⟩

theorem ev_ok {G : Globs} (hG : GlobOK W G) (he : EnvOK W φ H ρ a) (x : Operand) : Rel W φ H (ev G ρ x) (a.eval x) := by
  cases x with
  | tmp t => exact he t
  | global g => exact globAt_ok hG g
  | func f => simp only [ev, Act.eval]; unfold Rel; exact ⟨[], rfl, by simp [RelL]⟩
  | const v =>
    simp only [ev, Act.eval]
    unfold ofConst
    split <;> (unfold Rel; first | exact ⟨trivial, rfl⟩ | rfl | trivial)

def SubH (L H : HeapF) : Prop := ∀ id b, L id = some b → H id = some b

/-- A value is read out of memory. -/
theorem load_row {t : Nat} {d : TD} {ad : Addr} {y : AV} {u : Value} (hd : TDok P t d) (hy : Rel W φ H y u) (hs : y.stays = true) (hf : fits d y = true)
    (hrow : RowAt w ad u.cells.toList) : (loadVar t ad).run P w = .ok u w := by
  simp only [fits, Bool.and_eq_true, beq_iff_eq] at hf
  have hsz := Nat.eq_of_beq_eq_true hf.2
  have hlen := Rel.size y u hy hs
  unfold loadVar
  simp only [Sem.run_bind, hd.agg, Result.andThen_ok, Sem.run_ite, hd.sizeOf]
  rcases Rel.cases hy hs with ⟨ha, hu⟩ | ⟨ha, hu⟩
  · rw [← hf.1, ha, if_pos rfl]
    have hl := run_loadCells_list (P := P) w ad u.cells.toList hrow
    rw [Array.length_toList, hlen, hsz] at hl
    rw [hl]
    simp only [Result.andThen_ok, Sem.run_pure]
    rw [Array.toArray_toList]
    exact congrArg (fun x => Result.ok x w) hu.symm
  · rw [← hf.1, ha, if_neg (by simp)]
    have h0 := hrow 0 u (by rw [hu]; rfl)
    have : ad.add 0 = ad := by simp [Addr.add]
    rw [this] at h0
    simp [h0]

/-- A value is written into a block. -/
theorem store_row {t : Nat} {d : TD} {b : Nat} {cs : Array Value} {T : TypeId} {pre old post : List Value} {u : Value} (hd : TDok P t d) (hsz : u.cells.size = d.size)
    (hg : w.heap[b]? = some (.cells cs T (0, 0))) (hcs : cs.toList = pre ++ (old ++ post)) (hlen : u.cells.size = old.length) (h1 : ∀ c ∈ u.cells.toList, c.oneCell' = true) :
    (storeVar t ⟨b, pre.length, none⟩ u).run P w = .ok () (w.setRow b (pre ++ (u.cells.toList ++ post)).toArray) := by
  unfold storeVar
  have hne : ¬ (u.cells.size ≠ d.size) := by simp [hsz]
  have hsize : cs.size = pre.length + (old.length + post.length) := by rw [← Array.length_toList, hcs]; simp
  have hst := run_storeCells_at P b pre.length T u.cells.toList 0 cs w hg (by simp; omega) h1
  simp only [Nat.add_zero] at hst
  simp only [Sem.run_bind, hd.sizeOf, Result.andThen_ok, Sem.run_ite, if_neg hne]
  have hlen' : u.cells.toList.length = old.length := by rw [Array.length_toList]; exact hlen
  rw [hst, hcs, hlen']
  congr 3
  rw [List.take_left' rfl, ← List.append_assoc pre old post, List.drop_left' (by simp), List.append_assoc]

theorem RowAt.of_block {b : Nat} {cs : Array Value} {T : TypeId} {fr : Nat × Nat} (h : w.heap[b]? = some (.cells cs T fr)) {pre mid post : List Value} (hcs : cs.toList = pre ++ (mid ++ post)) :
    RowAt w ⟨b, pre.length, none⟩ mid := by
  have := rowOfBlock h
  rw [hcs] at this
  have := this.part
  rwa [AddrAdd, Nat.zero_add] at this

/-- The elements of a block of the function's own: where one of them lies. -/
theorem els_at {b : Nat} {cs : Array Value} {T : TypeId} {fr : Nat × Nat} {l : List PV} {s : Sh} (hb : w.heap[b]? = some (.cells cs T fr)) (hcs : cs.toList.take (PV.cellsL l).length = PV.cellsL l)
    (hok : PV.okL l) (hsh : PV.allSh s l) {off n : Nat} (hn : off + n ≤ l.length) : RowAt w ⟨b, off * s.size, none⟩ (PV.cellsL ((l.drop off).take n)) := by
  have h1 : PV.cellsL l = PV.cellsL (l.take off) ++ (PV.cellsL ((l.drop off).take n) ++ PV.cellsL ((l.drop off).drop n)) := by
    rw [← PV.cellsL_append, ← PV.cellsL_append, List.take_append_drop, List.take_append_drop]
  have h2 : cs.toList = PV.cellsL (l.take off) ++ (PV.cellsL ((l.drop off).take n) ++ (PV.cellsL ((l.drop off).drop n) ++ cs.toList.drop (PV.cellsL l).length)) := by
    have h3 := (List.take_append_drop (PV.cellsL l).length cs.toList).symm
    rw [hcs] at h3
    conv => lhs; rw [h3]
    conv => lhs; lhs; rw [h1]
    simp only [List.append_assoc]
  have h4 := RowAt.of_block hb h2
  rwa [PV.cellsL_arr _ s (okL_take hok off) (allSh_take hsh off), List.length_take, Nat.min_eq_left (by omega)] at h4

theorem isArr_ok (hX : X.ok P) {t n : Nat} (h : isArr X t n = true) : ∃ e, P.underlying t = some (.array n e) ∧ ∃ d, X.at t = some d ∧ d.kind = .arr n e := by
  unfold isArr at h
  split at h
  · rename_i m e a b c z hd
    have := Nat.eq_of_beq_eq_true h
    subst this
    exact ⟨e, (hX t _ hd).kind.1, _, hd, rfl⟩
  · cases h

theorem isSlice_ok (hX : X.ok P) {t : Nat} (h : isSlice X t = true) : ∃ e, P.underlying t = some (.slice e) ∧ ∃ d, X.at t = some d ∧ d.kind = .slice e := by
  unfold isSlice at h
  split at h
  · rename_i e a b c z hd
    exact ⟨e, (hX t _ hd).kind, _, hd, rfl⟩
  · cases h

/-- The size of the elements of an array's or a slice's type. -/
theorem elemOK_ok (hX : X.ok P) {t : Nat} {s : Sh} (h : elemOK X t s = true) {e : Nat} (he : (∃ n, P.underlying t = some (.array n e)) ∨ P.underlying t = some (.slice e)) (w : World) :
    (Go.sizeOf e).run P w = .ok s.size w := by
  unfold elemOK at h
  split at h
  · rename_i m e' a b c z hd
    have hk := (hX t _ hd).kind.1
    have hee : e' = e := by
      rcases he with ⟨n, he⟩ | he <;> rw [he] at hk <;> cases hk
      rfl
    subst hee
    split at h
    · rename_i d hd'
      have := Nat.eq_of_beq_eq_true h
      rw [← this]
      exact (hX e' d hd').sizeOf w
    · cases h
  · rename_i e' a b c z hd
    have hk := (hX t _ hd).kind
    have hee : e' = e := by
      rcases he with ⟨n, he⟩ | he <;> simp only [KindOK] at hk <;> rw [he] at hk <;> cases hk
      rfl
    subst hee
    split at h
    · rename_i d hd'
      have := Nat.eq_of_beq_eq_true h
      rw [← this]
      exact (hX e' d hd').sizeOf w
    · cases h
  · cases h

theorem peek_ok (hS : HSim W φ H w) (hL : SubH L H) {t : Nat} {x y : AV} {v : Value} (hr : Rel W φ H x v) (h : peekV X L t x = some y) :
    y.stays = true ∧ ∃ ad u, v = .pointer (some ad) ∧ Rel W φ H y u ∧ RowAt w ad u.cells.toList := by
  cases x <;> simp only [peekV] at h <;> try (cases h; done)
  case ptr id path =>
    split at h
    · rename_i x hx
      have hH := hL _ _ hx
      obtain ⟨hst, b, c, cs, T, vx, h1, h2, h3, h4⟩ := hS.blk _ _ hH
      obtain ⟨g1, g2, u, o, pre, post, g3, g4, g5, g6, _⟩ := navA_spec path x y vx h3 hst h
      simp only [Rel, hH] at hr
      obtain ⟨b', cap, o', r1, r2, rfl⟩ := hr
      rw [h1] at r1
      cases r1
      rw [g4] at r2
      cases r2
      subst g5
      refine ⟨g1, _, u, rfl, g3, ?_⟩
      subst h4
      exact RowAt.of_block h2 g6
    · cases h
  case pe id i path =>
    split at h
    · rename_i rw_ s l hx
      have hH := hL _ _ hx
      split at h
      · rename_i x hi
        split at h
        · rename_i y0 hn
          cases h
          simp only [Rel, hH] at hr
          obtain ⟨b, cap, o', r1, r2, r3, rfl⟩ := hr
          obtain ⟨h1, h2, h3⟩ := hS.blk _ _ hH
          rw [r1] at h3
          obtain ⟨cs, T, fr, h4, h5, h6, h7, h8, h9⟩ := h3
          have hx1 := okL_get h1 hi
          have hx2 := allSh_get h2 hi
          obtain ⟨g1, g2, o, pre, post, g3, g4, g5, _⟩ := nav_spec path x y0 hx1 hn
          rw [hx2, r3] at g3
          cases g3
          refine ⟨rfl, _, y0.val, rfl, Rel.plain g1, ?_⟩
          have hrow := els_at h4 h8 h1 h2 (off := i) (n := 1) (by omega)
          have hone : (l.drop i).take 1 = [x] := by
            rw [List.drop_eq_getElem_cons r2, List.take_succ_cons, List.take_zero]
            congr 1
            have := (List.getElem?_eq_some_iff.1 hi).2
            exact this
          rw [hone] at hrow
          simp only [PV.cellsL, List.append_nil, g5] at hrow
          have := hrow.part
          rw [AddrAdd, g4] at this
          rw [PV.cells_val_list]
          exact this
        · cases h
      · cases h
    · cases h
  case pes id off n =>
    split at h
    · rename_i rw_ s l hx
      have hH := hL _ _ hx
      split at h
      · cases h
        simp only [Rel, hH] at hr
        obtain ⟨r1, b, cap, ad, r2, rfl, r3⟩ := hr
        obtain ⟨h1, h2, h3⟩ := hS.blk _ _ hH
        rw [r2] at h3
        obtain ⟨cs, T, fr, h4, h5, h6, h7, h8, h9⟩ := h3
        have hok : (PV.arr n s ((l.drop off).take n)).ok := by
          simp only [PV.ok]
          exact ⟨by simp; omega, okL_take (okL_drop h1 off) n, allSh_take (allSh_drop h2 off) n⟩
        refine ⟨rfl, ad, _, rfl, Rel.plain hok, ?_⟩
        rw [PV.cells_val_list]
        simp only [PV.cells]
        rcases r3 with rfl | rfl
        · exact els_at h4 h8 h1 h2 r1
        · intro j c hj; simp [PV.cellsL] at hj
      · cases h
    · cases h
  case rp x =>
    cases h
    simp only [Rel] at hr
    obtain ⟨ad, u, rfl, h1, h2, h3⟩ := hr
    exact ⟨h2, ad, u, rfl, h1, h3.later hS.below⟩

theorem loadV_ok (hX : X.ok P) (hS : HSim W φ H w) (hL : SubH L H) {t : Nat} {x y : AV} {v : Value} (hr : Rel W φ H x v) (h : loadV X L t x = some y) :
    y.stays = true ∧ ∃ u, (Instr.loadAt t v).run P w = .ok u w ∧ Rel W φ H y u := by
  unfold loadV at h
  split at h
  · rename_i d hd
    split at h
    · rename_i y0 hp
      split at h
      · rename_i hf
        cases h
        simp only [Bool.and_eq_true] at hf
        obtain ⟨g1, ad, u, rfl, g2, g3⟩ := peek_ok hS hL hr hp
        refine ⟨g1, u, ?_, g2⟩
        simp [Instr.loadAt, Instr.sureAddr, load_row (hX t d hd) g2 g1 hf.1 g3]
      · cases h
    · cases h
  · cases h

end Go.Proofs.YtipmkjfbdflneaaDoor.AM

namespace Go.Proofs.YtipmkjfbdflneaaDoor.AM
open Go Go.RowKit

variable {P : Program} {X : Ctx} {W : World} {φ : Phi} {H L : HeapF} {w : World} {ρ : Nat → AV} {a : Act}

/-- What an operation comes to: the value, and the blocks that it has made or turned. -/
def Outcome (P : Program) (W : World) (φ : Phi) (H : HeapF) (s : Sem Next) (w : World) (v : AV) (d : Delta) : Prop :=
  ∃ w' φ' v', (s.run P w = .ok (.value v') w' ∨ (s.run P w = .ok .skip w' ∧ v' = undef)) ∧ HSim W φ' (addF d H) w' ∧ HExt φ H φ' (addF d H) ∧ Rel W φ' (addF d H) v v'

theorem Outcome.pure {s : Sem Next} {v : AV} {v' : Value} (hS : HSim W φ H w) (h : s.run P w = .ok (.value v') w) (hr : Rel W φ H v v') : Outcome P W φ H s w v [] :=
  ⟨w, φ, v', .inl h, hS, HExt.refl _ _, hr⟩

theorem HExt.upd {id : Nat} {blk blk' : Blk} (hi : H id = some blk) (hle : BlkLe blk blk') : HExt φ H φ (upd H id (some blk')) := fun i x hx => by
  refine ⟨rfl, ?_⟩
  by_cases hi' : i = id
  · subst hi'
    rw [hi] at hx
    cases hx
    exact ⟨blk', upd_same _ _ _, hle⟩
  · exact ⟨x, (upd_ne _ _ hi').trans hx, BlkLe.refl x⟩

theorem storeV_ok (hX : X.ok P) (hS : HSim W φ H w) (hL : SubH L H) {t : Nat} {x y : AV} {xv yv : Value} {d : Delta} (hx : Rel W φ H x xv) (hy : Rel W φ H y yv)
    (h : storeV X L t x y = some d) : ∃ w', (Instr.storeAt t xv yv).run P w = .ok () w' ∧ HSim W φ (addF d H) w' ∧ HExt φ H φ (addF d H) := by
  unfold storeV at h
  split at h
  · rename_i td htd
    split at h
    · rename_i hf
      simp only [Bool.and_eq_true] at hf
      obtain ⟨hf1, hf2⟩ := hf
      have hsz : yv.cells.size = td.size := (Rel.size y yv hy hf2).trans (Nat.eq_of_beq_eq_true hf1)
      have h1c := Rel.oneCells y yv hy hf2
      split at h
      · rename_i id path
        split at h
        · rename_i x0 hL0
          have hH := hL _ _ hL0
          split at h
          · rename_i y0 hnav
            split at h
            · rename_i hsh
              simp only [Bool.and_eq_true] at hsh
              have hsh1 := Sh.eq_of_beq _ _ hsh.1
              split at h
              · rename_i z hset
                cases h
                obtain ⟨hst, b, c, cs, T, vx, h1, h2, h3, h4⟩ := hS.blk _ _ hH
                obtain ⟨g1, g2, u, o, pre, post, g3, g4, g5, g6, g7⟩ := navA_spec path x0 y0 vx h3 hst hnav
                obtain ⟨k1, k2, v', k3, k4⟩ := g7 y yv z hy hf2 hsh1.symm hset
                simp only [Rel, hH] at hx
                obtain ⟨b', cap, o', r1, r2, rfl⟩ := hx
                rw [h1] at r1
                cases r1
                rw [g4] at r2
                cases r2
                subst g5
                subst h4
                have hold : yv.cells.size = u.cells.toList.length := by
                  rw [Array.length_toList, Rel.size y yv hy hf2, Rel.size y0 u g3 g1, hsh1]
                have hst' := store_row (w := w) (hX t td htd) hsz h2 g6 hold h1c
                refine ⟨_, by simp only [Instr.storeAt, Instr.sureAddr, Sem.run_bind, Sem.run_pure, Result.andThen_ok]; exact hst', ?_⟩
                simp only [addF]
                have he := HExt.upd (φ := φ) hH (show BlkLe (.var x0) (.var z) from k2)
                refine HSim.mod hS hH (by simp) h1 rfl rfl rfl (by simp) (fun k hk => setRow_other w b k _ hk) k2 ⟨k1, b, c, _, T, v', h1, setRow_heap w b _ _ T _ h2, Rel.mono he _ _ k3, ?_⟩
                rw [← k4, Array.toArray_toList]
              · cases h
            · cases h
          · cases h
        · cases h
      · rename_i id i path
        split at h
        · rename_i s l hL0
          have hH := hL _ _ hL0
          split at h
          · rename_i w0
            split at h
            · rename_i x0 hi
              split at h
              · rename_i y0 hnav
                split at h
                · rename_i hsh
                  have hsh1 := Sh.eq_of_beq _ _ hsh
                  split at h
                  · rename_i z hset
                    cases h
                    simp only [Rel, hH] at hx
                    obtain ⟨b, cap, o', r1, r2, r3, rfl⟩ := hx
                    obtain ⟨h1, h2, h3⟩ := hS.blk _ _ hH
                    rw [r1] at h3
                    obtain ⟨cs, T, fr, h4, h5, h6, h7, h8, h9⟩ := h3
                    have hfr := h9 rfl
                    subst hfr
                    have hx1 := okL_get h1 hi
                    have hx2 := allSh_get h2 hi
                    simp only [Rel] at hy
                    obtain ⟨hw0, rfl⟩ := hy
                    obtain ⟨g1, g2, o, pre, post, g3, g4, g5, g6⟩ := nav_spec path x0 y0 hx1 hnav
                    rw [hx2, r3] at g3
                    cases g3
                    obtain ⟨k1, k2, k3⟩ := g6 w0 z hw0 hsh1.symm hset
                    obtain ⟨c1, c2⟩ := cut_at hi
                    have hl1 : PV.cellsL l = PV.cellsL (l.take i) ++ ((pre ++ (y0.cells ++ post)) ++ PV.cellsL (l.drop (i + 1))) := by
                      conv => lhs; rw [c1]
                      rw [PV.cellsL_append]
                      simp only [PV.cellsL, g5]
                    have hl2 : PV.cellsL (l.set i z) = PV.cellsL (l.take i) ++ ((pre ++ (w0.cells ++ post)) ++ PV.cellsL (l.drop (i + 1))) := by
                      rw [c2 z, PV.cellsL_append]
                      simp only [PV.cellsL, k3]
                    have hpre : (PV.cellsL (l.take i) ++ pre).length = i * s.size + o' := by
                      rw [List.length_append, g4, PV.cellsL_arr _ s (okL_take h1 i) (allSh_take h2 i), List.length_take, Nat.min_eq_left (by omega)]
                    have hcs : cs.toList = (PV.cellsL (l.take i) ++ pre) ++ (y0.cells ++ (post ++ (PV.cellsL (l.drop (i + 1)) ++ cs.toList.drop (PV.cellsL l).length))) := by
                      have h3 := (List.take_append_drop (PV.cellsL l).length cs.toList).symm
                      rw [h8] at h3
                      conv => lhs; rw [h3]
                      conv => lhs; lhs; rw [hl1]
                      simp only [List.append_assoc]
                    have hold : w0.val.cells.size = y0.cells.length := by
                      rw [PV.cells_val]
                      simp only [List.size_toArray]
                      rw [PV.cells_length w0 hw0, PV.cells_length y0 g1, hsh1]
                    have hst' := store_row (w := w) (hX t td htd) hsz h4 hcs hold h1c
                    rw [hpre] at hst'
                    refine ⟨_, by simp only [Instr.storeAt, Instr.sureAddr, Sem.run_bind, Sem.run_pure, Result.andThen_ok]; exact hst', ?_⟩
                    simp only [addF]
                    have hlen : (PV.cellsL (l.set i z)).length = (PV.cellsL l).length := by
                      rw [hl1, hl2]
                      simp only [List.length_append]
                      rw [PV.cells_length w0 hw0, PV.cells_length y0 g1, hsh1]
                    refine HSim.mod hS hH (by simp) r1 rfl rfl rfl (by simp) (fun k hk => setRow_other w b k _ hk) ⟨rfl, by simp⟩ ?_
                    refine ⟨okL_set h1 k1, allSh_set h2 (k2.trans hx2), ?_⟩
                    rw [r1]
                    refine ⟨_, T, _, setRow_heap w b _ _ T _ h4, ?_, by simpa using h6, h7, ?_, fun _ => rfl⟩
                    · have hsize : cs.size = cs.toList.length := rfl
                      rw [hcs] at hsize
                      simp only [List.size_toArray, PV.cells_val_list, List.length_append] at hsize ⊢
                      rw [PV.cells_length w0 hw0, ← hsh1, ← PV.cells_length y0 g1]
                      omega
                    · simp only [PV.cells_val_list]
                      rw [hlen]
                      have : (PV.cellsL l).length = (PV.cellsL (l.set i z)).length := hlen.symm
                      rw [this]
                      have h9 : (PV.cellsL (l.take i) ++ pre ++ (w0.cells ++ (post ++ (PV.cellsL (l.drop (i + 1)) ++ cs.toList.drop (PV.cellsL (l.set i z)).length)))) =
                          PV.cellsL (l.set i z) ++ cs.toList.drop (PV.cellsL (l.set i z)).length := by
                        conv => rhs; lhs; rw [hl2]
                        simp only [List.append_assoc]
                      rw [h9, List.take_left' rfl]
                  · cases h
                · cases h
              · cases h
            · cases h
          · cases h
        · cases h
      · cases h
    · cases h
  · cases h

end Go.Proofs.YtipmkjfbdflneaaDoor.AM

namespace Go.Proofs.YtipmkjfbdflneaaDoor.AM
open Go Go.RowKit

variable {P : Program} {X : Ctx} {W : World} {φ : Phi} {H L : HeapF} {w : World} {ρ : Nat → AV} {a : Act}

theorem offS_snoc_st {s : Sh} {path : List Nat} {o f : Nat} {ls : List Sh} {s' : Sh} (h : offS s path = some o) (h2 : shS s path = some (.st ls)) (h3 : ls[f]? = some s') :
    offS s (snoc path f) = some (o + Sh.sizeL (ls.take f)) := by
  induction path generalizing s o with
  | nil =>
    cases s <;> simp only [shS, Option.some.injEq] at h2 <;> cases h2
    simp only [offS, Option.some.injEq] at h
    subst h
    simp [snoc, offS, h3]
  | cons g r ih =>
    cases s with
    | one => simp [shS] at h2
    | int k => simp [shS] at h2
    | bool => simp [shS] at h2
    | st l =>
      simp only [shS] at h2
      simp only [offS] at h
      cases hl : l[g]? with
      | none => simp [hl] at h2
      | some s1 =>
        simp only [hl] at h h2
        cases ho : offS s1 r with
        | none => simp [ho] at h
        | some o1 =>
          simp only [ho, Option.some.injEq] at h
          subst h
          simp [snoc, offS, hl, ih ho h2, Nat.add_assoc]
    | arr n e =>
      simp only [shS] at h2
      simp only [offS] at h
      by_cases hg : g < n
      · rw [if_pos hg] at h h2
        cases ho : offS e r with
        | none => simp [ho] at h
        | some o1 =>
          simp only [ho, Option.some.injEq] at h
          subst h
          simp [snoc, offS, hg, ih ho h2, Nat.add_assoc]
      · simp [hg] at h

theorem offS_snoc_arr {s : Sh} {path : List Nat} {o i n : Nat} {e : Sh} (h : offS s path = some o) (h2 : shS s path = some (.arr n e)) (h3 : i < n) :
    offS s (snoc path i) = some (o + i * e.size) := by
  induction path generalizing s o with
  | nil =>
    cases s <;> simp only [shS, Option.some.injEq] at h2 <;> cases h2
    simp only [offS, Option.some.injEq] at h
    subst h
    simp [snoc, offS, h3]
  | cons g r ih =>
    cases s with
    | one => simp [shS] at h2
    | int k => simp [shS] at h2
    | bool => simp [shS] at h2
    | st l =>
      simp only [shS] at h2
      simp only [offS] at h
      cases hl : l[g]? with
      | none => simp [hl] at h2
      | some s1 =>
        simp only [hl] at h h2
        cases ho : offS s1 r with
        | none => simp [ho] at h
        | some o1 =>
          simp only [ho, Option.some.injEq] at h
          subst h
          simp [snoc, offS, hl, ih ho h2, Nat.add_assoc]
    | arr n e =>
      simp only [shS] at h2
      simp only [offS] at h
      by_cases hg : g < n
      · rw [if_pos hg] at h h2
        cases ho : offS e r with
        | none => simp [ho] at h
        | some o1 =>
          simp only [ho, Option.some.injEq] at h
          subst h
          simp [snoc, offS, hg, ih ho h2, Nat.add_assoc]
      · simp [hg] at h

theorem field_ok (hX : X.ok P) {t f off u : Nat} (h : X.field t f = some (off, u)) :
    ∃ fields fld, P.underlying t = some (.struct fields) ∧ fields[f]? = some fld ∧ fld.offset = off ∧ fld.type = u := by
  unfold Ctx.field at h
  split at h
  · rename_i fs b c d e hd
    obtain ⟨fields, h1, h2, _⟩ := (hX t _ hd).kind
    rw [← h2, List.getElem?_map] at h
    cases hf : fields.toList[f]? with
    | none => simp [hf] at h
    | some fld =>
      simp only [hf, Option.map_some, Option.some.injEq, Prod.mk.injEq] at h
      exact ⟨fields, fld, h1, by simpa using hf, h.1, h.2⟩
  · cases h

theorem partOf_ok (hX : X.ok P) {t f : Nat} {y z : AV} {u : Value} (hy : Rel W φ H y u) (hs : y.stays = true) (h : partOf X t f y = some z) :
    z.stays = true ∧ ∃ fields fld d, P.underlying t = some (.struct fields) ∧ fields[f]? = some fld ∧ X.at fld.type = some d ∧ fits d z = true ∧ d.size ≠ 0 ∧
      (∃ ls, y.sh = .st ls ∧ ls[f]? = some z.sh ∧ Sh.sizeL (ls.take f) = fld.offset) ∧
      ∃ cs pre post uz, u = .agg cs ∧ Rel W φ H z uz ∧ cs.toList = pre ++ (uz.cells.toList ++ post) ∧ pre.length = fld.offset := by
  unfold partOf at h
  split at h
  · rename_i l
    split at h
    · rename_i off ty hf
      obtain ⟨fields, fld, f1, f2, f3, f4⟩ := field_ok hX hf
      split at h
      · rename_i x hl
        split at h
        · rename_i d hd
          split at h
          · rename_i hb
            cases h
            simp only [Bool.and_eq_true, Bool.not_eq_true'] at hb
            obtain ⟨⟨hb1, hb2⟩, hb3⟩ := hb
            have hoff := Nat.eq_of_beq_eq_true hb1
            simp only [Rel] at hy
            obtain ⟨hok, rfl⟩ := hy
            simp only [PV.ok] at hok
            obtain ⟨c1, _⟩ := cut_at hl
            subst f3 f4
            refine ⟨rfl, fields, fld, d, f1, f2, hd, hb2, fun e => by rw [e] at hb3; simp at hb3, ⟨PV.shL l, rfl, shL_get hl, by rw [shL_take]; exact hoff⟩, _, PV.cellsL (l.take f), PV.cellsL (l.drop (f + 1)), x.val, rfl, Rel.plain (okL_get hok hl), ?_, ?_⟩
            · rw [PV.cells_val_list]
              conv => lhs; rw [c1]
              simp [PV.cellsL_append, PV.cellsL]
            · rw [PV.cellsL_st _ (okL_take hok f), hoff]
          · cases h
        · cases h
      · cases h
    · cases h
  · rename_i l
    split at h
    · rename_i off ty hf
      obtain ⟨fields, fld, f1, f2, f3, f4⟩ := field_ok hX hf
      split at h
      · rename_i x hl
        split at h
        · rename_i d hd
          split at h
          · rename_i hb
            cases h
            simp only [Bool.and_eq_true, Bool.not_eq_true'] at hb
            obtain ⟨⟨hb1, hb2⟩, hb3⟩ := hb
            have hoff := Nat.eq_of_beq_eq_true hb1
            simp only [Rel] at hy
            obtain ⟨vs, hvs, hst, rfl⟩ := hy
            obtain ⟨vx, hvx, hrx⟩ := hvs.get hl
            obtain ⟨c1, _⟩ := cut_at hvx
            subst f3 f4
            refine ⟨hst _ (List.mem_of_getElem? hl), fields, fld, d, f1, f2, hd, hb2, fun e => by rw [e] at hb3; simp at hb3, ⟨AV.shL l, rfl, AV.shL_get hl, by rw [AV.shL_take]; exact hoff⟩, _, (vs.take f).flatMap (fun u => u.cells.toList), (vs.drop (f + 1)).flatMap (fun u => u.cells.toList), vx, rfl, hrx, ?_, ?_⟩
            · conv => lhs; rw [c1]
              simp
            · rw [Rel.sizeL _ _ (hvs.take f) (fun y hy => hst y (List.mem_of_mem_take hy)), hoff]
          · cases h
        · cases h
      · cases h
    · cases h
  · cases h

theorem run_fieldAt (hX : X.ok P) {t f : Nat} {fields : Array Field} {fld : Field} {d : TD} (h1 : P.underlying t = some (.struct fields)) (h2 : fields[f]? = some fld) (h3 : X.at fld.type = some d) (h4 : d.size ≠ 0)
    (ad : Addr) : (Instr.fieldAt t (.pointer (some ad)) f).run P w = .ok (.pointer (some (ad.add fld.offset))) w := by
  have hz := (hX _ _ h3).sizeOf w
  simp [Instr.fieldAt, run_underlying h1, h2, Instr.sureAddr, fieldPlace, hz, h4]

theorem fieldAddrV_ok (hX : X.ok P) (hS : HSim W φ H w) (hL : SubH L H) {t f : Nat} {x y : AV} {v : Value} (hr : Rel W φ H x v) (h : fieldAddrV X L t f x = some y) :
    ∃ u, (Instr.fieldAt t v f).run P w = .ok u w ∧ Rel W φ H y u := by
  unfold fieldAddrV at h
  split at h
  · rename_i id path
    split at h
    · rename_i x0 hx0
      have hH := hL _ _ hx0
      split at h
      · rename_i y0 hnav
        split at h
        · rename_i z hz
          cases h
          obtain ⟨hst, b, c, cs, T, vx, h1, h2, h3, h4⟩ := hS.blk _ _ hH
          obtain ⟨g1, g2, u, o, pre, post, g3, g4, g5, g6, _⟩ := navA_spec path x0 y0 vx h3 hst hnav
          obtain ⟨_, fields, fld, d, k1, k2, k3, k4, k5, ⟨ls, k6, k7, k8⟩, _⟩ := partOf_ok hX g3 g1 hz
          simp only [Rel, hH] at hr
          obtain ⟨b', cap, o', r1, r2, rfl⟩ := hr
          refine ⟨_, run_fieldAt hX k1 k2 k3 k5 _, ?_⟩
          simp only [Rel, hH]
          rw [k6] at g2
          exact ⟨b', cap, _, r1, offS_snoc_st r2 g2 k7, by rw [AddrAdd, k8]⟩
        · cases h
      · cases h
    · cases h
  · rename_i id i path
    split at h
    · rename_i rw_ s l hx0
      have hH := hL _ _ hx0
      split at h
      · rename_i x0 hi
        split at h
        · rename_i y0 hnav
          split at h
          · rename_i z hz
            cases h
            obtain ⟨h1, h2, h3⟩ := hS.blk _ _ hH
            obtain ⟨g1, g2, o, pre, post, g3, g4, g5, _⟩ := nav_spec path x0 y0 (okL_get h1 hi) hnav
            obtain ⟨_, fields, fld, d, k1, k2, k3, k4, k5, ⟨ls, k6, k7, k8⟩, _⟩ := partOf_ok hX (W := W) (φ := φ) (H := H) (Rel.plain g1) rfl hz
            simp only [Rel, hH] at hr
            obtain ⟨b', cap, o', r1, r2, r3, rfl⟩ := hr
            refine ⟨_, run_fieldAt hX k1 k2 k3 k5 _, ?_⟩
            simp only [Rel, hH]
            have k6' : y0.sh = .st ls := k6
            rw [k6', allSh_get h2 hi] at g2
            exact ⟨b', cap, _, r1, r2, offS_snoc_st r3 g2 k7, by rw [AddrAdd, k8, Nat.add_assoc]⟩
          · cases h
        · cases h
      · cases h
    · cases h
  · rename_i x0
    split at h
    · rename_i z hz
      cases h
      simp only [Rel] at hr
      obtain ⟨ad, u, rfl, r1, r2, r3⟩ := hr
      obtain ⟨k0, fields, fld, d, k1, k2, k3, k4, k5, _, cs, pre, post, uz, rfl, k6, k7, k8⟩ := partOf_ok hX r1 r2 hz
      refine ⟨_, run_fieldAt hX k1 k2 k3 k5 _, ?_⟩
      unfold Rel
      rw [cells_agg, k7] at r3
      exact ⟨_, uz, rfl, k6, k0, by rw [← k8]; exact r3.part⟩
    · cases h
  · cases h

end Go.Proofs.YtipmkjfbdflneaaDoor.AM
