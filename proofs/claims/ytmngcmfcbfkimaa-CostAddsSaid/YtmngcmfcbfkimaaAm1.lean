/- An abstract machine for the model's code: plain data, a function's own memory as a small literal map. Definitions. -/
import Derived.WalkKit
import Derived.Orders
import Derived.Deep.Quiet
namespace Go.Proofs.Ytmngcmfcbfkimaa.AM
open Go

/-- The shape of a piece of plain data: how many cells it has, and how they are grouped. -/
inductive Sh where
  | one
  | int (k : IntKind)
  | bool
  | arr (n : Nat) (s : Sh)
  | st (l : List Sh)

mutual
def Sh.size : Sh → Nat
  | .one => 1
  | .int _ => 1
  | .bool => 1
  | .arr n s => n * s.size
  | .st l => Sh.sizeL l
def Sh.sizeL : List Sh → Nat
  | [] => 0
  | s :: l => s.size + Sh.sizeL l
end

def kindBeq : IntKind → IntKind → Bool
  | .i8, .i8 => true
  | .i16, .i16 => true
  | .i32, .i32 => true
  | .i64, .i64 => true
  | .u8, .u8 => true
  | .u16, .u16 => true
  | .u32, .u32 => true
  | .u64, .u64 => true
  | _, _ => false

theorem kind_of_beq {a b : IntKind} (h : kindBeq a b = true) : a = b := by
  cases a <;> cases b <;> first | rfl | (simp [kindBeq] at h)

mutual
def Sh.beq : Sh → Sh → Bool
  | .one, .one => true
  | .int k, .int k' => kindBeq k k'
  | .bool, .bool => true
  | .arr n s, .arr m u => Nat.beq n m && Sh.beq s u
  | .st l, .st m => Sh.beqL l m
  | _, _ => false
def Sh.beqL : List Sh → List Sh → Bool
  | [], [] => true
  | s :: l, u :: m => Sh.beq s u && Sh.beqL l m
  | _, _ => false
end

mutual
theorem Sh.eq_of_beq : ∀ (a b : Sh), Sh.beq a b = true → a = b
  | .one, b, h => by cases b <;> first | rfl | (simp [Sh.beq] at h)
  | .int k, b, h => by
    cases b <;> simp [Sh.beq] at h
    rw [kind_of_beq h]
  | .bool, b, h => by cases b <;> first | rfl | (simp [Sh.beq] at h)
  | .arr n s, b, h => by
    cases b <;> simp only [Sh.beq, Bool.and_eq_true] at h <;> try (cases h; done)
    have h1 := Nat.eq_of_beq_eq_true h.1
    have h2 := Sh.eq_of_beq s _ h.2
    rw [h1, h2]
  | .st l, b, h => by
    cases b <;> simp only [Sh.beq] at h <;> try (cases h; done)
    rw [Sh.eqL_of_beq l _ h]
theorem Sh.eqL_of_beq : ∀ (a b : List Sh), Sh.beqL a b = true → a = b
  | [], [], _ => rfl
  | s :: l, u :: m, h => by
    simp only [Sh.beqL, Bool.and_eq_true] at h
    rw [Sh.eq_of_beq s u h.1, Sh.eqL_of_beq l m h.2]
  | [], _ :: _, h => by simp [Sh.beqL] at h
  | _ :: _, [], h => by simp [Sh.beqL] at h
end

/-- Plain data: no address in it. -/
inductive PV where
  | i (k : IntKind) (n : Int)
  | b (x : Bool)
  | str (s : ByteArray)
  | arr (n : Nat) (s : Sh) (l : List PV)
  | st (l : List PV)

mutual
def PV.sh : PV → Sh
  | .i k _ => .int k
  | .b _ => .bool
  | .str _ => .one
  | .arr n s _ => .arr n s
  | .st l => .st (PV.shL l)
def PV.shL : List PV → List Sh
  | [] => []
  | x :: l => x.sh :: PV.shL l
end

mutual
def PV.cells : PV → List Value
  | .i k n => [.int k n]
  | .b x => [.bool x]
  | .str s => [.string s]
  | .arr _ _ l => PV.cellsL l
  | .st l => PV.cellsL l
def PV.cellsL : List PV → List Value
  | [] => []
  | x :: l => x.cells ++ PV.cellsL l
end

-- Arrays have as many elements as they say, all of the shape that they say.
mutual
def PV.ok : PV → Prop
  | .i _ _ => True
  | .b _ => True
  | .str _ => True
  | .arr n s l => l.length = n ∧ PV.okL l ∧ PV.allSh s l
  | .st l => PV.okL l
def PV.okL : List PV → Prop
  | [] => True
  | x :: l => x.ok ∧ PV.okL l
def PV.allSh (s : Sh) : List PV → Prop
  | [] => True
  | x :: l => x.sh = s ∧ PV.allSh s l
end

def PV.val : PV → Value
  | .i k n => .int k n
  | .b x => .bool x
  | .str s => .string s
  | .arr _ _ l => .agg (PV.cellsL l).toArray
  | .st l => .agg (PV.cellsL l).toArray

def PV.isAgg : PV → Bool
  | .arr _ _ _ => true
  | .st _ => true
  | _ => false

/-- Values of the abstract machine. -/
inductive AV where
  /-- nothing is known -/
  | junk
  | p (x : PV)
  /-- the nil slice -/
  | nil
  /-- a slice in memory that nobody writes while the function runs -/
  | ro (s : Sh) (l : List PV)
  /-- the same, of slices -/
  | roA (l : List AV)
  /-- a slice of a block of the function's own: from an element on, so many -/
  | sl (id off len : Nat)
  /-- the whole of such a block -/
  | own (id : Nat)
  /-- a part of an array variable -/
  | sa (id : Nat) (path : List Nat) (off len : Nat)
  /-- the address of a variable of the function's own, and the way into it -/
  | ptr (id : Nat) (path : List Nat)
  /-- the address of an element of a block of the function's own -/
  | pe (id i : Nat) (path : List Nat)
  /-- the address of so many elements of such a block -/
  | pes (id off len : Nat)
  /-- an address in memory that nobody writes while the function runs -/
  | rp (x : AV)
  | fn (f : Nat) (caps : List AV)
  | st (l : List AV)
  | tup (l : List AV)
  /-- the nil function -/
  | nilf

/-- A block of the function's own. -/
inductive Blk where
  | var (x : AV)
  | els (rw : Bool) (s : Sh) (l : List PV)
  | elsA (l : List AV)
  | dead

abbrev Env := List (Nat × AV)
abbrev Heap := List (Nat × Blk)

def get : Env → Nat → AV
  | [], _ => .junk
  | (u, v) :: r, t => match Nat.beq u t with
    | true => v
    | false => get r t

def find : Heap → Nat → Option Blk
  | [], _ => none
  | (u, v) :: r, t => match Nat.beq u t with
    | true => some v
    | false => find r t

/-- How a type lies, as the operations ask for it. -/
inductive TK where
  | int (k : IntKind)
  | bool
  | str
  | slice (e : Nat)
  | arr (n e : Nat)
  | st (fs : List (Nat × Nat))
  | ptr (e : Nat)
  | other

structure TD where
  kind : TK
  size : Nat
  bytes : Nat
  agg : Bool
  zero : Option AV

abbrev TT := List (Nat × TD)

def TT.at (tt : TT) (t : Nat) : Option TD :=
  match tt with
  | [] => none
  | (u, d) :: r => match Nat.beq u t with
    | true => some d
    | false => TT.at r t

end Go.Proofs.Ytmngcmfcbfkimaa.AM
