/- The abstract machine: rows of operations, and code. -/
import Derived.Test.YtmngcmfcbfkimaaAm3
namespace Go.Proofs.Ytmngcmfcbfkimaa.AM
open Go

def elemFits (X : Ctx) (t : Nat) (x : AV) : Bool :=
  match X.at t with
  | some ⟨.arr _ e, _, _, _, _⟩ => match X.at e with
    | some d => fits d x
    | none => false
  | _ => false

/-- One operation that calls no function: its value, and what becomes of the heap. -/
def opV (X : Ctx) (ρ : Nat → AV) (L : HeapF) (fid : Nat → Nat) (o : Oper) : Option (AV × Delta) :=
  match o.op with
  | .move x => some (ev X.G ρ x, [])
  | .assign x => some (ev X.G ρ x, [])
  | .pick c a b => match ev X.G ρ c with
    | .p (.b y) => match y with
      | true => some (ev X.G ρ a, [])
      | false => some (ev X.G ρ b, [])
    | _ => none
  | .alloc t => match zeroOf X t with
    | some z => match L (fid ((o.dst.getD 0) * 8)) with
      | none => some (.ptr (fid ((o.dst.getD 0) * 8)) [], [(fid ((o.dst.getD 0) * 8), .var z)])
      | some _ => none
    | none => none
  | .box _ x => match (ev X.G ρ x).stays with
    | true => match L (fid ((o.dst.getD 0) * 8)) with
      | none => some (.ptr (fid ((o.dst.getD 0) * 8)) [], [(fid ((o.dst.getD 0) * 8), .var (ev X.G ρ x))])
      | some _ => none
    | false => none
  | .build t parts => match buildV X t (mapPair (ev X.G ρ) parts.toList) with
    | some v => some (v, [])
    | none => none
  | .buildSlice t n parts => buildSliceV X L (fid ((o.dst.getD 0) * 8)) t n (mapPair (ev X.G ρ) parts.toList)
  | .load t a => match loadV X L t (ev X.G ρ a) with
    | some v => some (v, [])
    | none => none
  | .store t a x => match storeV X L t (ev X.G ρ a) (ev X.G ρ x) with
    | some d => some (.junk, d)
    | none => none
  | .binOp op t x y _ => match binV X op t (ev X.G ρ x) (ev X.G ρ y) with
    | some v => some (.p v, [])
    | none => none
  | .unOp op _ x => match unV op (ev X.G ρ x) with
    | some v => some (.p v, [])
    | none => none
  | .convert src dst x => match X.at src, X.at dst, ev X.G ρ x with
    | some ⟨.int _, _, _, _, _⟩, some ⟨.int k, _, _, _, _⟩, .p (.i _ n) => some (.p (.i k (k.wrap n)), [])
    | _, _, _ => none
  | .makeFunc fn first caps => match fn, first.toList with
    | .func f, [] => some (.fn f (mapOp (ev X.G ρ) caps.toList), [])
    | _, _ => none
  | .makeSlice t n c => match ev X.G ρ n, ev X.G ρ c with
    | .p (.i .i64 a), .p (.i .i64 b) => makeSliceV X L (fid ((o.dst.getD 0) * 8)) t a b
    | _, _ => none
  | .slice t x lo hi mx => match sliceV X L t (ev X.G ρ x) (optOp (ev X.G ρ) lo) (optOp (ev X.G ρ) hi) (optOp (ev X.G ρ) mx) with
    | some v => some (v, [])
    | none => none
  | .fieldAddr t x f => match fieldAddrV X L t f (ev X.G ρ x) with
    | some v => some (v, [])
    | none => none
  | .field t x f => match partOf X t f (ev X.G ρ x) with
    | some v => some (v, [])
    | none => none
  | .indexAddr t x i => match ev X.G ρ i with
    | .p (.i _ n) => match indexAddrV X L t (ev X.G ρ x) n with
      | some v => some (v, [])
      | none => none
    | _ => none
  | .index t x i => match ev X.G ρ i, ev X.G ρ x with
    | .p (.i _ n), .p (.arr m s l) => match isArr X t m && elemOK X t s with
      | true => match getI l n with
        | some y => match elemFits X t (.p y) with
          | true => some (.p y, [])
          | false => none
        | none => none
      | false => none
    | _, _ => none
  | .extract x i => match ev X.G ρ x with
    | .tup l => match l[i]? with
      | some v => some (v, [])
      | none => none
    | _ => none
  | .sliceToArrayPointer t x => match ev X.G ρ x with
    | .sl id off len => match L id with
      | some (.els _ _ _) => match X.at t with
        | some ⟨.arr n _, _, _, _, _⟩ => match decide (n ≤ len) && Nat.ble 1 n with
          | true => some (.pes id off n, [])
          | false => none
        | _ => none
      | _ => none
    | _ => none
  | .nilCheck x => match ev X.G ρ x with
    | .ptr id path => some (.ptr id path, [])
    | .rp y => some (.rp y, [])
    | _ => none
  | .call ⟨.builtin b, args, ts⟩ => builtinV X L (fid ((o.dst.getD 0) * 8)) b ts.toList (mapOp (ev X.G ρ) args.toList)
  | _ => none

/-- The blocks that an operation may look at: those that its operands name, and those that it may make. -/
def opndRefs (G : Globs) (ρ : Nat → AV) : List Operand → List Nat
  | [] => []
  | x :: r => (ev G ρ x).refs ++ opndRefs G ρ r

def sites (fid : Nat → Nat) (o : Oper) : List Nat :=
  [fid ((o.dst.getD 0) * 8), fid ((o.dst.getD 0) * 8 + 1), fid ((o.dst.getD 0) * 8 + 2), fid ((o.dst.getD 0) * 8 + 3)]

def looks (X : Ctx) (ρ : Nat → AV) (fid : Nat → Nat) (o : Oper) : List Nat :=
  sites fid o ++ opndRefs X.G ρ o.op.operands.toList

def addD : Delta → Heap → Heap
  | [], h => h
  | e :: d, h => addD d (e :: h)

/-- Does an operation's guard let it run: the bool that the guarding operation left. -/
def guardV (_G : Globs) (ops : List Oper) (ρ : Nat → AV) (o : Oper) : Option Bool :=
  match o.guard with
  | none => some true
  | some (j, want) => match ops[j]? with
    | some g => match g.dst with
      | some t => match ρ t with
        | .p (.b x) => match want with
          | true => match x with
            | true => some true
            | false => some false
          | false => match x with
            | true => some false
            | false => some true
        | .tup [] => some false
        | _ => none
      | none => none
    | none => none

def O1 {α : Type} (x : Option α) (k : α → Prop) : Prop :=
  match x with
  | some a => k a
  | none => False

def putE (d : Option Tmp) (v : AV) (e : Env) : Env :=
  match d with
  | some t => (t, v) :: e
  | none => e

/-- The call of a Go function: which, and with what. -/
def callee (X : Ctx) (ρ : Nat → AV) (o : Oper) : Option (Nat × List AV) :=
  match o.op with
  | .call ⟨.value f, args, _⟩ => match ev X.G ρ f with
    | .fn g caps => some (g, mapOp (ev X.G ρ) args.toList ++ caps)
    | _ => none
  | _ => none

end Go.Proofs.Ytmngcmfcbfkimaa.AM
