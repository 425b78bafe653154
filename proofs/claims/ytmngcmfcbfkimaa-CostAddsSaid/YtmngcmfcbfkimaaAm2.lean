/- The abstract machine: what the operations do. -/
import Derived.Test.YtmngcmfcbfkimaaAm1
namespace Go.Proofs.Ytmngcmfcbfkimaa.AM
open Go

/-- A list at an integer index. -/
def getI {α : Type} (l : List α) (i : Int) : Option α :=
  match decide (0 ≤ i) with
  | true => l[i.toNat]?
  | false => none

/-- A place in a piece of data, by a way of fields and indexes. -/
def nav : PV → List Nat → Option PV
  | x, [] => some x
  | .st l, f :: r => match l[f]? with
    | some x => nav x r
    | none => none
  | .arr _ _ l, f :: r => match l[f]? with
    | some x => nav x r
    | none => none
  | _, _ :: _ => none

def navA : AV → List Nat → Option AV
  | x, [] => some x
  | .p x, f :: r => match nav x (f :: r) with
    | some y => some (.p y)
    | none => none
  | .st l, f :: r => match l[f]? with
    | some x => navA x r
    | none => none
  | _, _ :: _ => none

/-- Another value at a place. -/
def setP : PV → List Nat → PV → Option PV
  | _, [], v => some v
  | .st l, f :: r, v => match l[f]? with
    | some x => match setP x r v with
      | some y => some (.st (l.set f y))
      | none => none
    | none => none
  | .arr n s l, f :: r, v => match l[f]? with
    | some x => match setP x r v with
      | some y => some (.arr n s (l.set f y))
      | none => none
    | none => none
  | _, _ :: _, _ => none

def setA : AV → List Nat → AV → Option AV
  | _, [], v => some v
  | .p x, f :: r, .p v => match setP x (f :: r) v with
    | some y => some (.p y)
    | none => none
  | .st l, f :: r, v => match l[f]? with
    | some x => match setA x r v with
      | some y => some (.st (l.set f y))
      | none => none
    | none => none
  | _, _ :: _, _ => none

mutual
def AV.sh : AV → Sh
  | .p x => x.sh
  | .st l => .st (AV.shL l)
  | _ => .one
def AV.shL : List AV → List Sh
  | [] => []
  | x :: l => x.sh :: AV.shL l
end

def AV.isAgg : AV → Bool
  | .p x => x.isAgg
  | .st _ => true
  | _ => false

/-- May stand in memory. -/
def AV.stays : AV → Bool
  | .junk => false
  | .tup _ => false
  | _ => true

mutual
/-- The blocks that a value names. -/
def AV.refs : AV → List Nat
  | .sl id _ _ => [id]
  | .own id => [id]
  | .sa id _ _ _ => [id]
  | .ptr id _ => [id]
  | .pe id _ _ => [id]
  | .pes id _ _ => [id]
  | .rp x => x.refs
  | .roA l => AV.refsL l
  | .fn _ l => AV.refsL l
  | .st l => AV.refsL l
  | .tup l => AV.refsL l
  | _ => []
def AV.refsL : List AV → List Nat
  | [] => []
  | x :: l => x.refs ++ AV.refsL l
end

def memN : Nat → List Nat → Bool
  | _, [] => false
  | n, m :: l => match Nat.beq n m with
    | true => true
    | false => memN n l

abbrev HeapF := Nat → Option Blk

/-- The heap, at the blocks that an operation may look at. -/
def restrict (H : HeapF) (l : List Nat) : HeapF := fun id =>
  match memN id l with
  | true => H id
  | false => none

def ofConst : Value → AV
  | .int k n => .p (.i k n)
  | .bool x => .p (.b x)
  | .string s => .p (.str s)
  | .slice none 0 0 => .nil
  | _ => .junk

/-- Package-level variables that are read: what they hold. -/
abbrev Globs := List (Nat × PV)

def globAt : Globs → Nat → AV
  | [], _ => .junk
  | (h, x) :: r, g => match Nat.beq h g with
    | true => .rp (.p x)
    | false => globAt r g

def ev (G : Globs) (ρ : Nat → AV) : Operand → AV
  | .tmp t => ρ t
  | .const v => ofConst v
  | .global g => globAt G g
  | .func f => .fn f []

/-- A slice as a callee sees it: what it holds. -/
def shut0 (L : HeapF) : AV → Option AV
  | .p x => some (.p x)
  | .nil => some (.ro .one [])
  | .ro s l => some (.ro s l)
  | .own id => match L id with
    | some (.els _ s l) => some (.ro s l)
    | _ => none
  | .sl id off len => match L id with
    | some (.els _ s l) => some (.ro s ((l.drop off).take len))
    | _ => none
  | .sa id path off len => match L id with
    | some (.var x) => match navA x path with
      | some (.p (.arr _ s l)) => some (.ro s ((l.drop off).take len))
      | _ => none
    | _ => none
  | _ => none

def shut0L (L : HeapF) : List AV → Option (List AV)
  | [] => some []
  | x :: l => match shut0 L x with
    | some y => match shut0L L l with
      | some m => some (y :: m)
      | none => none
    | none => none

/-- The same, of slices of slices too; the address of a variable: what is there. -/
def shut1 (L : HeapF) : AV → Option AV
  | .roA l => match shut0L L l with
    | some m => some (.roA m)
    | none => none
  | .own id => match L id with
    | some (.els _ s l) => some (.ro s l)
    | some (.elsA l) => match shut0L L l with
      | some m => some (.roA m)
      | none => none
    | _ => none
  | .rp x => match shut0 L x with
    | some y => some (.rp y)
    | none => none
  | .ptr id path => match L id with
    | some (.var x) => match navA x path with
      | some y => match shut0 L y with
        | some z => some (.rp z)
        | none => none
      | none => none
    | _ => none
  | x => shut0 L x

def shutL (L : HeapF) : List AV → Option (List AV)
  | [] => some []
  | x :: l => match shut1 L x with
    | some y => match shutL L l with
      | some m => some (y :: m)
      | none => none
    | none => none

/-- The same, of structs and function values too. -/
def shut (L : HeapF) : AV → Option AV
  | .st l => match shutL L l with
    | some m => some (.st m)
    | none => none
  | .fn f l => match shutL L l with
    | some m => some (.fn f m)
    | none => none
  | x => shut1 L x

def shutAll (L : HeapF) : List AV → Option (List AV)
  | [] => some []
  | x :: l => match shut L x with
    | some y => match shutAll L l with
      | some m => some (y :: m)
      | none => none
    | none => none

abbrev Delta := List (Nat × Blk)

def upd {α : Type} (f : Nat → α) (i : Nat) (v : α) : Nat → α := fun j => if j = i then v else f j

def addF : Delta → HeapF → HeapF
  | [], H => H
  | (i, b) :: d, H => addF d (upd H i (some b))

def appD : Delta → Delta → Delta
  | [], e => e
  | x :: d, e => x :: appD d e

/-- What a callee hands back becomes the caller's own. -/
def adopt1 (L : HeapF) (site : Nat) : AV → Option (AV × Delta)
  | .p x => some (.p x, [])
  | .ro s l => match L site with
    | none => some (.own site, [(site, .els true s l)])
    | some _ => none
  | _ => none

def adoptL (fid : Nat → Nat) : HeapF → Nat → List AV → Option (List AV × Delta)
  | _, _, [] => some ([], [])
  | L, site, x :: l => match adopt1 L (fid site) x with
    | some (y, d) => match adoptL fid (addF d L) (site + 1) l with
      | some (m, e) => some (y :: m, appD d e)
      | none => none
    | none => none

def adoptT (fid : Nat → Nat) : HeapF → Nat → List AV → Option (List AV × Delta)
  | _, _, [] => some ([], [])
  | L, site, .st l :: r => match adoptL fid L site l with
    | some (m, d) => match adoptT fid (addF d L) (site + 2) r with
      | some (n, e) => some (.st m :: n, appD d e)
      | none => none
    | none => none
  | L, site, x :: r => match adopt1 L (fid site) x with
    | some (y, d) => match adoptT fid (addF d L) (site + 1) r with
      | some (n, e) => some (y :: n, appD d e)
      | none => none
    | none => none

def adopt (L : HeapF) (fid : Nat → Nat) (site : Nat) : AV → Option (AV × Delta)
  | .tup l => match adoptT fid L site l with
    | some (m, d) => some (.tup m, d)
    | none => none
  | .st l => match adoptL fid L site l with
    | some (m, d) => some (.st m, d)
    | none => none
  | x => adopt1 L (fid site) x

end Go.Proofs.Ytmngcmfcbfkimaa.AM
