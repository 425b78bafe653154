/- The abstract machine: one operation. -/
import Derived.Test.YtmngcmfcbfkimaaAm2
namespace Go.Proofs.Ytmngcmfcbfkimaa.AM
open Go

/-- What a program's type says: the way that the operations ask for it. -/
structure Ctx where
  tt : TT
  G : Globs

def Ctx.at (X : Ctx) (t : Nat) : Option TD := TT.at X.tt t

def Ctx.field (X : Ctx) (t f : Nat) : Option (Nat × Nat) :=
  match X.at t with
  | some ⟨.st fs, _, _, _, _⟩ => fs[f]?
  | _ => none

/-- Does a value lie as a type says. -/
def fits (d : TD) (x : AV) : Bool := (x.isAgg == d.agg) && Nat.beq x.sh.size d.size

def arith (op : BinOp) (k : IntKind) (a b : Int) : Option PV :=
  match op with
  | .add => some (.i k (k.wrap (a + b)))
  | .sub => some (.i k (k.wrap (a - b)))
  | .mul => some (.i k (k.wrap (a * b)))
  | .quo => match decide (b = 0) with
    | true => none
    | false => some (.i k (k.wrap (a.tdiv b)))
  | .rem => match decide (b = 0) with
    | true => none
    | false => some (.i k (a.tmod b))
  | .and => some (.i k (k.wrap (BitVec.ofInt k.bits a &&& BitVec.ofInt k.bits b).toNat))
  | .or => some (.i k (k.wrap (BitVec.ofInt k.bits a ||| BitVec.ofInt k.bits b).toNat))
  | .xor => some (.i k (k.wrap (BitVec.ofInt k.bits a ^^^ BitVec.ofInt k.bits b).toNat))
  | .andNot => some (.i k (k.wrap (BitVec.ofInt k.bits a &&& ~~~(BitVec.ofInt k.bits b)).toNat))
  | .eql => some (.b (a == b))
  | .neq => some (.b (a != b))
  | .lss => some (.b (decide (a < b)))
  | .leq => some (.b (decide (a ≤ b)))
  | .gtr => some (.b (decide (a > b)))
  | .geq => some (.b (decide (a ≥ b)))
  | _ => none

def shiftV (op : BinOp) (k : IntKind) (a b : Int) : Option PV :=
  match decide (b < 0) with
  | true => none
  | false => match op with
    | .shl => some (.i k (k.wrap (a * 2 ^ (min b.toNat k.bits))))
    | .shr => some (.i k (a.fdiv (2 ^ (min b.toNat k.bits))))
    | _ => none

mutual
/-- Are two pieces of data of one shape the same. -/
def PV.same : PV → PV → Bool
  | .i _ u, .i _ v => u == v
  | .b u, .b v => u == v
  | .str u, .str v => u == v
  | .arr _ _ l, .arr _ _ m => PV.sameL l m
  | .st l, .st m => PV.sameL l m
  | _, _ => false
def PV.sameL : List PV → List PV → Bool
  | [], [] => true
  | u :: l, v :: m => PV.same u v && PV.sameL l m
  | _, _ => false
end

def isEq : BinOp → Option Bool
  | .eql => some true
  | .neq => some false
  | _ => none

mutual
/-- The type has nothing in it but integers and bools, at the depth that is asked for, and lies as the shape says: its values compare cell by cell. -/
def flat (X : Ctx) : Nat → Nat → Sh → Bool
  | 0, _, _ => false
  | n + 1, t, s => match X.at t with
    | some ⟨k, z, _, g, _⟩ => Nat.beq z s.size && (match k, s with
      | .int j, .int j' => kindBeq j j' && !g
      | .bool, .bool => !g
      | .arr m e, .arr m' s' => Nat.beq m m' && g && flat X n e s'
      | .st fs, .st l => g && flatL X n 0 fs l
      | _, _ => false)
    | none => false
def flatL (X : Ctx) : Nat → Nat → List (Nat × Nat) → List Sh → Bool
  | 0, _, _, _ => false
  | _ + 1, _, [], [] => true
  | n + 1, off, (o, u) :: fs, s :: l => Nat.beq o off && flat X n u s && flatL X n (off + s.size) fs l
  | _, _, _, _ => false
end

def binV (X : Ctx) (op : BinOp) (t : Nat) (x y : AV) : Option PV :=
  match x, y with
  | .p (.i k a), .p (.i k' b) => match op with
    | .shl => shiftV op k a b
    | .shr => shiftV op k a b
    | _ => match kindBeq k k' with
      | true => arith op k a b
      | false => none
  | .p (.b a), .p (.b b) => match X.at t with
    | some ⟨.bool, _, _, _, _⟩ => match op with
      | .eql => some (.b (a == b))
      | .neq => some (.b (a != b))
      | _ => none
    | _ => none
  | .p (.str a), .p (.str b) => match op with
    | .eql => some (.b (a == b))
    | .neq => some (.b (a != b))
    | _ => none
  | .p x, .p y => match flat X 32 t x.sh && Sh.beq x.sh y.sh && x.isAgg && y.isAgg with
    | true => match op with
      | .eql => some (.b (PV.same x y))
      | .neq => some (.b (!PV.same x y))
      | _ => none
    | false => none
  | _, _ => none

def unV (op : UnOp) (x : AV) : Option PV :=
  match op, x with
  | .not, .p (.b a) => some (.b (!a))
  | .neg, .p (.i k a) => some (.i k (k.wrap (0 - a)))
  | .xor, .p (.i k a) => some (.i k (k.wrap (BitVec.ofInt k.bits (if k.signed then -1 else k.max) ^^^ BitVec.ofInt k.bits a).toNat))
  | _, _ => none

/-- The bounds of a slice expression: where it begins, and how long it is. -/
def bounds (lo hi : Option AV) (n : Nat) : Option (Nat × Nat) :=
  match lo, hi with
  | none, none => some (0, n)
  | some (.p (.i _ a)), none => match decide (0 ≤ a) with
    | true => match decide (a ≤ n) with
      | true => some (a.toNat, n - a.toNat)
      | false => none
    | false => none
  | none, some (.p (.i _ b)) => match decide (0 ≤ b) with
    | true => match decide (b ≤ n) with
      | true => some (0, b.toNat)
      | false => none
    | false => none
  | some (.p (.i _ a)), some (.p (.i _ b)) => match decide (0 ≤ a) with
    | true => match decide (a ≤ b) with
      | true => match decide (b ≤ n) with
        | true => some (a.toNat, b.toNat - a.toNat)
        | false => none
      | false => none
    | false => none
  | _, _ => none

/-- With a third index: it may not be less than the second, nor more than what is there. -/
def bounds3 (lo hi mx : Option AV) (n : Nat) : Option (Nat × Nat) :=
  match mx with
  | none => bounds lo hi n
  | some (.p (.i _ m)) => match hi with
    | some (.p (.i _ b)) => match decide (b ≤ m) with
      | true => match decide (m ≤ n) with
        | true => bounds lo hi n
        | false => none
      | false => none
    | _ => none
  | _ => none

/-- How many elements a slice has, and the kind of memory that it lies in. -/
def lenV (L : HeapF) : AV → Option Nat
  | .nil => some 0
  | .ro _ l => some l.length
  | .roA l => some l.length
  | .sl id _ n => match L id with
    | some (.els _ _ _) => some n
    | _ => none
  | .sa _ _ _ n => some n
  | .own id => match L id with
    | some (.els _ _ l) => some l.length
    | some (.elsA l) => some l.length
    | _ => none
  | _ => none

def snoc : List Nat → Nat → List Nat
  | [], n => [n]
  | m :: l, n => m :: snoc l n

/-- The part of a struct that a field names, if it lies where the type says. -/
def partOf (X : Ctx) (t f : Nat) : AV → Option AV
  | .p (.st l) => match X.field t f with
    | some (off, u) => match l[f]? with
      | some x => match X.at u with
        | some d => match Nat.beq (Sh.sizeL (PV.shL (l.take f))) off && fits d (.p x) && !(Nat.beq d.size 0) with
          | true => some (.p x)
          | false => none
        | none => none
      | none => none
    | none => none
  | .st l => match X.field t f with
    | some (off, u) => match l[f]? with
      | some x => match X.at u with
        | some d => match Nat.beq (Sh.sizeL (AV.shL (l.take f))) off && fits d x && !(Nat.beq d.size 0) with
          | true => some x
          | false => none
        | none => none
      | none => none
    | none => none
  | _ => none

def elemOK (X : Ctx) (t : Nat) (s : Sh) : Bool :=
  match X.at t with
  | some ⟨.arr _ e, _, _, _, _⟩ => match X.at e with
    | some d => Nat.beq d.size s.size
    | none => false
  | some ⟨.slice e, _, _, _, _⟩ => match X.at e with
    | some d => Nat.beq d.size s.size
    | none => false
  | _ => false

def isArr (X : Ctx) (t n : Nat) : Bool :=
  match X.at t with
  | some ⟨.arr m _, _, _, _, _⟩ => Nat.beq m n
  | _ => false

def isSlice (X : Ctx) (t : Nat) : Bool :=
  match X.at t with
  | some ⟨.slice _, _, _, _, _⟩ => true
  | _ => false

def elemZero (X : Ctx) (t : Nat) : Option (AV × TD) :=
  match X.at t with
  | some ⟨.slice e, _, _, _, _⟩ => match X.at e with
    | some ⟨k, a, b, c, some z⟩ => some (z, ⟨k, a, b, c, some z⟩)
    | _ => none
  | _ => none

def sliceV (X : Ctx) (L : HeapF) (t : Nat) (x : AV) (lo hi mx : Option AV) : Option AV :=
  match x with
  | .nil => match elemZero X t with
    | some _ => match bounds3 lo hi mx 0 with
      | some _ => some .nil
      | none => none
    | none => none
  | .ro s l => match isSlice X t && elemOK X t s with
    | true => match bounds3 lo hi mx l.length with
      | some (a, n) => some (.ro s ((l.drop a).take n))
      | none => none
    | false => none
  | .sl id off len => match L id with
    | some (.els _ s _) => match isSlice X t && elemOK X t s with
      | true => match bounds3 lo hi mx len with
        | some (a, n) => match a with
          | 0 => some (.sl id off n)
          | a + 1 => some (.sl id (off + (a + 1)) n)
        | none => none
      | false => none
    | _ => none
  | .own id => match L id with
    | some (.els _ s l) => match isSlice X t && elemOK X t s with
      | true => match bounds3 lo hi mx l.length with
        | some (a, n) => some (.sl id a n)
        | none => none
      | false => none
    | _ => none
  | .ptr id path => match L id with
    | some (.var x) => match navA x path with
      | some (.p (.arr k s _)) => match isArr X t k && elemOK X t s with
        | true => match bounds3 lo hi mx k with
          | some (a, n) => some (.sa id path a n)
          | none => none
        | false => none
      | _ => none
    | _ => none
  | .rp (.p (.arr k s l)) => match isArr X t k && elemOK X t s with
    | true => match bounds3 lo hi mx k with
      | some (a, n) => some (.ro s ((l.drop a).take n))
      | none => none
    | false => none
  | _ => none

def fieldAddrV (X : Ctx) (L : HeapF) (t f : Nat) : AV → Option AV
  | .ptr id path => match L id with
    | some (.var x) => match navA x path with
      | some y => match partOf X t f y with
        | some _ => some (.ptr id (snoc path f))
        | none => none
      | none => none
    | _ => none
  | .pe id i path => match L id with
    | some (.els _ _ l) => match l[i]? with
      | some x => match nav x path with
        | some y => match partOf X t f (.p y) with
          | some _ => some (.pe id i (snoc path f))
          | none => none
        | none => none
      | none => none
    | _ => none
  | .rp x => match partOf X t f x with
    | some y => some (.rp y)
    | none => none
  | _ => none

def indexAddrV (X : Ctx) (L : HeapF) (t : Nat) (x : AV) (i : Int) : Option AV :=
  match x with
  | .ptr id path => match L id with
    | some (.var x) => match navA x path with
      | some (.p (.arr n s l)) => match isArr X t n && elemOK X t s with
        | true => match getI l i with
          | some _ => some (.ptr id (snoc path i.toNat))
          | none => none
        | false => none
      | _ => none
    | _ => none
  | .rp (.p (.arr n s l)) => match isArr X t n && elemOK X t s with
    | true => match getI l i with
      | some y => some (.rp (.p y))
      | none => none
    | false => none
  | .ro s l => match isSlice X t && elemOK X t s with
    | true => match getI l i with
      | some y => some (.rp (.p y))
      | none => none
    | false => none
  | .roA l => match isSlice X t && elemOK X t .one with
    | true => match getI l i with
      | some y => some (.rp y)
      | none => none
    | false => none
  | .own id => match L id with
    | some (.els _ s l) => match isSlice X t && elemOK X t s with
      | true => match getI l i with
        | some _ => some (.pe id i.toNat [])
        | none => none
      | false => none
    | _ => none
  | .sl id off len => match L id with
    | some (.els _ s l) => match isSlice X t && elemOK X t s with
      | true => match getI ((l.drop off).take len) i with
        | some _ => some (.pe id (off + i.toNat) [])
        | none => none
      | false => none
    | _ => none
  | .sa id path off len => match L id with
    | some (.var x) => match navA x path with
      | some (.p (.arr _ s l)) => match isSlice X t && elemOK X t s with
        | true => match getI ((l.drop off).take len) i with
          | some _ => some (.ptr id (snoc path (off + i.toNat)))
          | none => none
        | false => none
      | _ => none
    | _ => none
  | _ => none

/-- What lies at an address. -/
def peekV (X : Ctx) (L : HeapF) (t : Nat) (a : AV) : Option AV :=
  match a with
  | .ptr id path => match L id with
    | some (.var x) => navA x path
    | _ => none
  | .pe id i path => match L id with
    | some (.els _ _ l) => match l[i]? with
      | some x => match nav x path with
        | some y => some (.p y)
        | none => none
      | none => none
    | _ => none
  | .pes id off len => match L id with
    | some (.els _ s l) => match isArr X t len && elemOK X t s with
      | true => some (.p (.arr len s ((l.drop off).take len)))
      | false => none
    | _ => none
  | .rp x => some x
  | _ => none

def loadV (X : Ctx) (L : HeapF) (t : Nat) (a : AV) : Option AV :=
  match X.at t with
  | some d => match peekV X L t a with
    | some y => match fits d y && y.stays with
      | true => some y
      | false => none
    | none => none
  | none => none

def storeV (X : Ctx) (L : HeapF) (t : Nat) (a v : AV) : Option Delta :=
  match X.at t with
  | some d => match Nat.beq v.sh.size d.size && v.stays with
    | true => match a with
      | .ptr id path => match L id with
        | some (.var x) => match navA x path with
          | some y => match Sh.beq y.sh v.sh && y.stays with
            | true => match setA x path v with
              | some z => some [(id, .var z)]
              | none => none
            | false => none
          | none => none
        | _ => none
      | .pe id i path => match L id with
        | some (.els true s l) => match v with
          | .p w => match l[i]? with
            | some x => match nav x path with
              | some y => match Sh.beq y.sh w.sh with
                | true => match setP x path w with
                  | some z => some [(id, .els true s (l.set i z))]
                  | none => none
                | false => none
              | none => none
            | none => none
          | _ => none
        | _ => none
      | _ => none
    | false => none
  | none => none

/-- The parts of a literal, laid over the zero value: of an array or a slice. -/
def fillP : List PV → List (Nat × AV) → Option (List PV)
  | l, [] => some l
  | l, (i, .p x) :: r => match l[i]? with
    | some y => match Sh.beq y.sh x.sh with
      | true => fillP (l.set i x) r
      | false => none
    | none => none
  | _, _ => none

/-- Of a struct. -/
def fillS (X : Ctx) (t : Nat) : List PV → List (Nat × AV) → Option (List PV)
  | l, [] => some l
  | l, (i, .p x) :: r => match partOf X t i (.p (.st l)) with
    | some y => match Sh.beq y.sh x.sh with
      | true => fillS X t (l.set i x) r
      | false => none
    | none => none
  | _, _ => none

def fillSA (X : Ctx) (t : Nat) : List AV → List (Nat × AV) → Option (List AV)
  | l, [] => some l
  | l, (i, x) :: r => match partOf X t i (.st l) with
    | some y => match Sh.beq y.sh x.sh && x.stays with
      | true => fillSA X t (l.set i x) r
      | false => none
    | none => none

/-- Of a slice of slices. -/
def fillA : List AV → List (Nat × AV) → Option (List AV)
  | l, [] => some l
  | l, (i, x) :: r => match l[i]? with
    | some _ => match !x.isAgg && x.stays with
      | true => fillA (l.set i x) r
      | false => none
    | none => none

def zeroOf (X : Ctx) (t : Nat) : Option AV :=
  match X.at t with
  | some ⟨_, _, _, _, z⟩ => z
  | none => none

def buildV (X : Ctx) (t : Nat) (parts : List (Nat × AV)) : Option AV :=
  match X.at t with
  | some ⟨.st _, _, _, _, some (.p (.st l))⟩ => match fillS X t l parts with
    | some m => some (.p (.st m))
    | none => none
  | some ⟨.st _, _, _, _, some (.st l)⟩ => match fillSA X t l parts with
    | some m => some (.st m)
    | none => none
  | some ⟨.arr _ _, _, _, _, some (.p (.arr n s l))⟩ => match isArr X t n && elemOK X t s with
    | true => match fillP l parts with
      | some m => some (.p (.arr n s m))
      | none => none
    | false => none
  | _ => none

def buildSliceV (X : Ctx) (L : HeapF) (id t n : Nat) (parts : List (Nat × AV)) : Option (AV × Delta) :=
  match L id with
  | some _ => none
  | none => match elemZero X t with
    | some (.p z, d) => match Nat.ble (n * d.size) 16777216 && fits d (.p z) && !(Nat.beq d.size 0) with
      | true => match fillP (List.replicate n z) parts with
        | some l => some (.own id, [(id, .els true z.sh l)])
        | none => none
      | false => none
    | some (.nil, d) => match Nat.ble (n * d.size) 16777216 && fits d .nil with
      | true => match fillA (List.replicate n .nil) parts with
        | some l => some (.own id, [(id, .elsA l)])
        | none => none
      | false => none
    | _ => none

def makeSliceV (X : Ctx) (L : HeapF) (id t : Nat) (n c : Int) : Option (AV × Delta) :=
  match L id with
  | some _ => none
  | none => match elemZero X t with
    | some (.p z, d) => match decide (0 ≤ n) with
      | true => match decide (n ≤ c) with
        | true => match decide (d.bytes * c ≤ 140737488355328) && decide (c ≤ 9223372036854775807) && fits d (.p z) with
          | true => some (.own id, [(id, .els true z.sh (List.replicate n.toNat z))])
          | false => none
        | false => none
      | false => none
    | _ => none

/-- What is appended: a slice's elements; or so many zero values. -/
def srcV (X : Ctx) (L : HeapF) (t : Nat) (_z y : AV) : Option (Sh × List PV) :=
  match X.at t with
  | some ⟨.slice _, _, _, _, _⟩ => match shut1 L y with
    | some (.ro s m) => some (s, m)
    | _ => none
  | _ => none

def appendV (X : Ctx) (L : HeapF) (id t u : Nat) (x y : AV) : Option (AV × Delta) :=
  match L id with
  | some _ => none
  | none => match elemZero X t with
    | some (z, d) => match srcV X L u z y with
      | some (s, m) => match Nat.beq d.size s.size && Nat.ble 1 d.bytes with
        | true => match x with
          | .nil => match decide (m.length * d.bytes ≤ 140737488351232) with
            | true => some (.own id, [(id, .els true s m)])
            | false => none
          | .own o => match L o with
            | some (.els true u l) => match Sh.beq s u with
              | true => match decide ((l.length + m.length) * d.bytes ≤ 140737488351232) with
                | true => some (.own id, [(o, .dead), (id, .els true u (l ++ m))])
                | false => none
              | false => none
            | _ => none
          | .sl o 0 n => match L o with
            | some (.els true u l) => match Sh.beq s u with
              | true => match decide ((n + m.length) * d.bytes ≤ 140737488351232) with
                | true => some (.own id, [(o, .dead), (id, .els true u (l.take n ++ m))])
                | false => none
              | false => none
            | _ => none
          | _ => none
        | false => none
      | none => none
    | none => none

/-- So many zero values, appended to nil: what slices.Grow does. -/
def appendZ (X : Ctx) (L : HeapF) (id t u : Nat) (x y : AV) : Option (AV × Delta) :=
  match L id with
  | some _ => none
  | none => match elemZero X t, X.at u, x, y with
    | some (.p z, d), some ⟨.int _, _, _, _, _⟩, .nil, .p (.i .i64 n) => match decide (0 ≤ n) with
      | true => match fits d (.p z) && Nat.ble 1 d.bytes && Nat.ble 1 d.size with
        | true => match decide (n * d.bytes ≤ 140737488351232) with
          | true => some (.own id, [(id, .els true z.sh (List.replicate n.toNat z))])
          | false => none
        | false => none
      | false => none
    | _, _, _, _ => none

def copyL {α : Type} (d : List α) (off len : Nat) (s : List α) : List α :=
  d.take off ++ (s.take len ++ d.drop (off + (s.take len).length))

def copyV (X : Ctx) (L : HeapF) (t : Nat) (x y : AV) : Option (AV × Delta) :=
  match shut1 L y with
  | some (.ro s m) => match x with
    | .sa id path off len => match L id with
      | some (.var v) => match navA v path with
        | some (.p (.arr n u l)) => match Sh.beq s u && isSlice X t && elemOK X t s with
          | true => match setA v path (.p (.arr n u (copyL l off len m))) with
            | some z => some (.p (.i .i64 (min m.length len)), [(id, .var z)])
            | none => none
          | false => none
        | _ => none
      | _ => none
    | _ => none
  | _ => none

def mapPair (f : Operand → AV) : List (Nat × Operand) → List (Nat × AV)
  | [] => []
  | (i, x) :: r => (i, f x) :: mapPair f r

def mapOp (f : Operand → AV) : List Operand → List AV
  | [] => []
  | x :: r => f x :: mapOp f r

def optOp (f : Operand → AV) : Option Operand → Option AV
  | none => none
  | some x => some (f x)

def capV (_L : HeapF) : AV → Option Nat
  | .nil => some 0
  | _ => none

def lenT (X : Ctx) (L : HeapF) (t : Nat) (x : AV) : Option Nat :=
  match X.at t with
  | some ⟨.slice _, _, _, _, _⟩ => lenV L x
  | some ⟨.arr n _, _, _, _, _⟩ => some n
  | some ⟨.str, _, _, _, _⟩ => match x with
    | .p (.str s) => some s.size
    | _ => none
  | _ => none

def max2V : AV → AV → Option AV
  | .p (.i k a), .p (.i _ b) => some (.p (.i k (if b > a then b else a)))
  | _, _ => none
def min2V : AV → AV → Option AV
  | .p (.i k a), .p (.i _ b) => some (.p (.i k (if b < a then b else a)))
  | _, _ => none
def foldV (f : AV → AV → Option AV) : AV → List AV → Option AV
  | x, [] => some x
  | x, y :: r => match f x y with
    | some z => foldV f z r
    | none => none

def builtinV (X : Ctx) (L : HeapF) (id : Nat) (b : Builtin) (ts : List Nat) (args : List AV) : Option (AV × Delta) :=
  match b with
  | .len => match ts, args with
    | [t], [x] => match lenT X L t x with
      | some n => some (.p (.i .i64 n), [])
      | none => none
    | _, _ => none
  | .cap => match ts, args with
    | [t], [x] => match isSlice X t with
      | true => match capV L x with
        | some n => some (.p (.i .i64 n), [])
        | none => none
      | false => none
    | _, _ => none
  | .max => match args with
    | x :: r => match foldV max2V x r with
      | some y => some (y, [])
      | none => none
    | _ => none
  | .min => match args with
    | x :: r => match foldV min2V x r with
      | some y => some (y, [])
      | none => none
    | _ => none
  | .append => match ts, args with
    | [t, u], [x, y] => match isSlice X u with
      | true => appendV X L id t u x y
      | false => appendZ X L id t u x y
    | _, _ => none
  | .copy => match ts, args with
    | [t, _], [x, y] => copyV X L t x y
    | _, _ => none
  | _ => none

end Go.Proofs.Ytmngcmfcbfkimaa.AM
