/- The abstract machine: rows of operations, and code, over what is to be shown of calls and of loops. -/
import Derived.Test.YtfnagfehgoicaaaAm4
namespace Go.Proofs.Ytfnagfehgoicaaa.AM
open Go

/-- How a piece of code ends. -/
inductive Ex where
  | normal
  | exit (id : Nat)
  | ret

/-- What is to be shown of a call by its contract, of a call that goes on in the same memory, and of a loop. -/
structure Jd where
  fn : Nat → List AV → AV → Prop
  inl : Nat → List AV → Heap → (AV → Heap → Prop) → Prop
  loop : Nat → Code → Env → Heap → (Ex → Env → Heap → Prop) → Prop

def maxId : Heap → Nat
  | [] => 0
  | (u, _) :: r => Nat.max u (maxId r)

/-- The name of a new block: the operation's own, or one that no block bears. -/
def freshId (base : Nat) (h : Heap) (s : Nat) : Nat :=
  match find h (base + s) with
  | none => base + s
  | some _ => Nat.succ (maxId h + base) + s

def addK : Delta → Heap → (Heap → Prop) → Prop
  | [], h, k => k h
  | e :: d, h, k => addK d (e :: h) k

/-- A slice held against nil. -/
def nilCmp (X : Ctx) (ρ : Nat → AV) (o : Oper) : Option (List PV × Bool) :=
  match o.op with
  | .binOp op t x (.const (.slice none 0 0)) _ => match isSlice X t with
    | true => match ev X.G ρ x with
      | .ro _ l => match isEq op with
        | some b => some (l, b)
        | none => none
      | _ => none
    | false => none
  | _ => none

/-- A list of numbers of functions whose calls go on in the caller's memory. -/
abbrev Inls := List Nat

def iteB (x : Bool) (p q : Prop) : Prop :=
  match x with
  | true => p
  | false => q

/-- A bool is known before one goes on: each of its two values is walked by itself. -/
def forceB (v : AV) (k : AV → Prop) : Prop :=
  match v with
  | .p (.b x) => iteB x (k (.p (.b true))) (k (.p (.b false)))
  | v => k v

theorem forceB_eq (v : AV) (k : AV → Prop) : forceB v k = k v := by
  cases v with
  | p x => cases x with
    | b y => cases y <;> rfl
    | _ => rfl
  | _ => rfl

theorem iteT {x : Bool} {p q : Prop} (h : x = true) (hp : p) : iteB x p q := by rw [h]; exact hp
theorem iteF {x : Bool} {p q : Prop} (h : x = false) (hq : q) : iteB x p q := by rw [h]; exact hq
theorem iteC {x : Bool} {p q : Prop} (hp : x = true → p) (hq : x = false → q) : iteB x p q := by
  cases x
  · exact hq rfl
  · exact hp rfl

section
variable (X : Ctx) (J : Jd) (I : Inls) (base : Nat)

def callP (f : Nat) (as : List AV) (site : Nat) (h : Heap) (k : AV → Heap → Prop) : Prop :=
  match memN f I with
  | true => J.inl f as h k
  | false => match shutAll (find h) as with
    | some bs => ∃ r, J.fn f bs r ∧ match adopt (find h) (freshId base h) site r with
      | some (v, d) => addK d h (k v)
      | none => False
    | none => False

def opsP (all : List Oper) : List Oper → Env → Heap → (Env → Heap → Prop) → Prop
  | [], e, h, K => K e h
  | o :: r, e, h, K => match guardV X.G all (get e) o with
    | none => False
    | some false => match o.dst with
      | some t => opsP all r ((t, .junk) :: e) h K
      | none => opsP all r e h K
    | some true => match callee X (get e) o with
      | some (f, as) => callP J I base f as ((o.dst.getD 0) * 8) h (fun v h' => forceB v fun v => match o.dst with
        | some t => opsP all r ((t, v) :: e) h' K
        | none => opsP all r e h' K)
      | none => match nilCmp X (get e) o with
        | some (l, b) => ∀ y : Bool, (y = true → l = []) → forceB (.p (.b (y == b))) fun v => match o.dst with
          | some t => opsP all r ((t, v) :: e) h K
          | none => opsP all r e h K
        | none => match opV X (get e) (find h) (freshId base h) o with
          | some (v, d) => addK d h (fun h' => forceB v fun v => match o.dst with
            | some t => opsP all r ((t, v) :: e) h' K
            | none => opsP all r e h' K)
          | none => False

def disjN : List Nat → List Nat → Bool
  | [], _ => true
  | n :: l, m => match memN n m with
    | true => false
    | false => disjN l m

/-- Does an operation wait for another one, whatever order is drawn. -/
def waitsL (k : Nat) : List Edge → Bool
  | [] => false
  | e :: r => match Region.binds .any e with
    | true => match Nat.beq e.on k with
      | true => true
      | false => waitsL k r
    | false => waitsL k r

def dIds : Delta → List Nat
  | [] => []
  | (i, _) :: d => i :: dIds d

abbrev Foot := Nat × List Nat × List Nat

/-- Of two operations of which none waits for the other, none may look at a block that the other makes or turns. -/
def footOK (o : Oper) (lk wr : List Nat) : List Foot → Bool
  | [] => true
  | (k, lk', wr') :: r => match waitsL k o.after.toList with
    | true => footOK o lk wr r
    | false => match disjN wr' lk && disjN wr' wr && disjN wr lk' with
      | true => footOK o lk wr r
      | false => false

/-- A row of operations whose order is open: in the text's order, with a record of who looks at what. -/
def opsD (all : List Oper) : Nat → List Foot → List Oper → Env → Heap → (Env → Heap → Prop) → Prop
  | _, _, [], e, h, K => K e h
  | k, done, o :: r, e, h, K => match guardV X.G all (get e) o with
    | none => False
    | some false => match o.dst with
      | some t => opsD all (k + 1) ((k, [], []) :: done) r ((t, .junk) :: e) h K
      | none => opsD all (k + 1) ((k, [], []) :: done) r e h K
    | some true => match callee X (get e) o with
      | some (f, as) => match shutAll (restrict (find h) (looks X (get e) (fun s => base + s) o)) as with
        | some bs => ∃ rv, J.fn f bs rv ∧ match adopt (find h) (fun s => base + s) ((o.dst.getD 0) * 8) rv with
          | some (v, d) => match footOK o (looks X (get e) (fun s => base + s) o) (dIds d) done with
            | true => addK d h (fun h' => forceB v fun v => match o.dst with
              | some t => opsD all (k + 1) ((k, looks X (get e) (fun s => base + s) o, dIds d) :: done) r ((t, v) :: e) h' K
              | none => opsD all (k + 1) ((k, looks X (get e) (fun s => base + s) o, dIds d) :: done) r e h' K)
            | false => False
          | none => False
        | none => False
      | none => match opV X (get e) (restrict (find h) (looks X (get e) (fun s => base + s) o)) (fun s => base + s) o with
        | some (v, d) => match footOK o (looks X (get e) (fun s => base + s) o) (dIds d) done with
          | true => addK d h (fun h' => forceB v fun v => match o.dst with
            | some t => opsD all (k + 1) ((k, looks X (get e) (fun s => base + s) o, dIds d) :: done) r ((t, v) :: e) h' K
            | none => opsD all (k + 1) ((k, looks X (get e) (fun s => base + s) o, dIds d) :: done) r e h' K)
          | false => False
        | none => False

def codeP : Code → Env → Heap → (Ex → Env → Heap → Prop) → Prop
  | .skip, e, h, K => K .normal e h
  | .region _ os d, e, h, K => match d with
    | true => opsD X J base os.toList 0 [] os.toList e h (K .normal)
    | false => opsP X J I base os.toList os.toList e h (K .normal)
  | .seq a b, e, h, K => codeP a e h (fun x e' h' => match x with
    | .normal => codeP b e' h' K
    | .exit i => K (.exit i) e' h'
    | .ret => K .ret e' h')
  | .cond c a b, e, h, K => match ev X.G (get e) c with
    | .p (.b x) => match x with
      | true => codeP a e h K
      | false => codeP b e h K
    | _ => False
  | .block i c, e, h, K => codeP c e h (fun x e' h' => match x with
    | .normal => K .normal e' h'
    | .exit j => match Nat.beq j i with
      | true => K .normal e' h'
      | false => K (.exit j) e' h'
    | .ret => K .ret e' h')
  | .loop c, e, h, K => J.loop base c e h K
  | .exit i, e, h, K => K (.exit i) e h
  | .ret, e, h, K => K .ret e h
  | _, _, _, _ => False
end

/-- What a function hands back. -/
def resOne (X : Ctx) (ρ : Nat → AV) (L : HeapF) : ResultVar → Option AV
  | .tmp t => some (ρ t)
  | .cell t u => loadV X L u (ρ t)

def resAll (X : Ctx) (ρ : Nat → AV) (L : HeapF) : List ResultVar → Option (List AV)
  | [] => some []
  | r :: l => match resOne X ρ L r with
    | some v => match resAll X ρ L l with
      | some m => some (v :: m)
      | none => none
    | none => none

def resV (X : Ctx) (ρ : Nat → AV) (L : HeapF) (rs : List ResultVar) : Option AV :=
  match resAll X ρ L rs with
  | some [v] => some v
  | some l => some (.tup l)
  | none => none

/-- What it hands back, as its caller is told. -/
def told1 (L : HeapF) : AV → Option AV
  | .p x => some (.p x)
  | .nil => some (.ro .one [])
  | .own id => match L id with
    | some (.els true s l) => some (.ro s l)
    | _ => none
  | .sl id 0 n => match L id with
    | some (.els true s l) => some (.ro s (l.take n))
    | _ => none
  | _ => none

def toldL (L : HeapF) : List AV → Option (List AV)
  | [] => some []
  | x :: l => match told1 L x with
    | some y => match toldL L l with
      | some m => some (y :: m)
      | none => none
    | none => none

def toldT (L : HeapF) : List AV → Option (List AV)
  | [] => some []
  | .st l :: r => match toldL L l with
    | some m => match toldT L r with
      | some n => some (.st m :: n)
      | none => none
    | none => none
  | x :: r => match told1 L x with
    | some y => match toldT L r with
      | some n => some (y :: n)
      | none => none
    | none => none

def nodupN : List Nat → Bool
  | [] => true
  | n :: l => match memN n l with
    | true => false
    | false => nodupN l

def told (L : HeapF) (x : AV) : Option AV :=
  match nodupN x.refs with
  | true => match x with
    | .tup l => match toldT L l with
      | some m => some (.tup m)
      | none => none
    | .st l => match toldL L l with
      | some m => some (.st m)
      | none => none
    | x => told1 L x
  | false => none

def bodyK (X : Ctx) (rs : List ResultVar) (K : AV → Heap → Prop) : Ex → Env → Heap → Prop
  | .exit _, _, _ => False
  | _, e, h => match resV X (get e) (find h) rs with
    | some v => K v h
    | none => False

def envOf : Nat → List AV → Env
  | _, [] => []
  | n, x :: l => (n, x) :: envOf (n + 1) l

end Go.Proofs.Ytfnagfehgoicaaa.AM
