/- The abstract machine: rows of operations, and code, over what is to be shown of calls and of loops. -/
import Derived.Test.YtmngcmfcbfkimaaAm4
namespace Go.Proofs.Ytmngcmfcbfkimaa.AM
open Go

/-- How a piece of code ends. -/
inductive Ex where
  | normal
  | exit (id : Nat)
  | ret

/-- What is to be shown of a call by its contract, of a call that goes on in the same memory, and of a loop. -/
structure Jd where
  fn : Nat → List AV → AV → Prop
  inl : Nat → List AV → Heap → (AV → Heap → Prop) → Prop
  loop : Nat → Code → Env → Heap → (Ex → Env → Heap → Prop) → Prop

/-- The name of a new block: the operation's own. -/
def freshId (base : Nat) (_ : Heap) (s : Nat) : Nat := base + s

def forceN (n : Nat) (k : Nat → Prop) : Prop :=
  match n with
  | 0 => k 0
  | Nat.succ m => k (Nat.succ m)

theorem forceN_eq (n : Nat) (k : Nat → Prop) : forceN n k = k n := by cases n <;> rfl

/-- A value is reckoned before one goes on. -/
def forceV (v : AV) (k : AV → Prop) : Prop :=
  match v with
  | .junk => k .junk
  | .p x => k (.p x)
  | .nil => k .nil
  | .ro s l => k (.ro s l)
  | .roA l => k (.roA l)
  | .sl i o n => forceN i fun i => k (.sl i o n)
  | .own i => forceN i fun i => k (.own i)
  | .sa i p o n => forceN i fun i => k (.sa i p o n)
  | .ptr i p => forceN i fun i => k (.ptr i p)
  | .pe i j p => forceN i fun i => k (.pe i j p)
  | .pes i o n => forceN i fun i => k (.pes i o n)
  | .rp x => k (.rp x)
  | .fn f l => k (.fn f l)
  | .st l => k (.st l)
  | .tup l => k (.tup l)
  | .nilf => k .nilf

theorem forceV_eq (v : AV) (k : AV → Prop) : forceV v k = k v := by cases v <;> simp only [forceV, forceN_eq]

def forceK (b : Blk) (k : Blk → Prop) : Prop :=
  match b with
  | .var x => forceV x fun x => k (.var x)
  | .els rw s l => k (.els rw s l)
  | .elsA l => k (.elsA l)
  | .dead => k .dead

theorem forceK_eq (b : Blk) (k : Blk → Prop) : forceK b k = k b := by cases b <;> simp only [forceK, forceV_eq]

def addK : Delta → Heap → (Heap → Prop) → Prop
  | [], h, k => k h
  | (i, b) :: d, h, k => forceN i fun i => forceK b fun b => addK d ((i, b) :: h) k

/-- A slice held against nil. -/
def nilCmp (X : Ctx) (ρ : Nat → AV) (o : Oper) : Option (List PV × Bool) :=
  match o.op with
  | .binOp op t x (.const (.slice none 0 0)) _ => match isSlice X t with
    | true => match ev X.G ρ x with
      | .ro _ l => match isEq op with
        | some b => some (l, b)
        | none => none
      | _ => none
    | false => none
  | _ => none

/-- A list of numbers of functions whose calls go on in the caller's memory. -/
abbrev Inls := List Nat

/-- A bool that the walk comes upon: what follows, at its value. -/
structure Fork (x : Bool) (k : Bool → Prop) : Prop where
  out : k x

/-- A bool is known before one goes on: each of its two values is walked by itself. -/
def forceB (v : AV) (k : AV → Prop) : Prop :=
  match v with
  | .p (.b x) => Fork x fun y => k (.p (.b y))
  | v => forceV v k

theorem forceB_ok {v : AV} {k : AV → Prop} (h : forceB v k) : k v := by
  unfold forceB at h
  split at h
  · exact h.out
  · rw [forceV_eq] at h
    exact h

/-- What an operation of the kind that makes new bools leaves; copies are as they were. -/
def forceO (o : Oper) (v : AV) (k : AV → Prop) : Prop :=
  match o.op with
  | .move _ => forceV v k
  | .assign _ => forceV v k
  | .pick _ _ _ => forceV v k
  | .unOp _ _ _ => forceV v k
  | _ => forceB v k

theorem forceO_ok {o : Oper} {v : AV} {k : AV → Prop} (h : forceO o v k) : k v := by
  unfold forceO at h
  split at h
  · rw [forceV_eq] at h; exact h
  · rw [forceV_eq] at h; exact h
  · rw [forceV_eq] at h; exact h
  · rw [forceV_eq] at h; exact h
  · exact forceB_ok h

theorem iteT {x : Bool} {k : Bool → Prop} (h : x = true) (hp : k true) : Fork x k := ⟨by rw [h]; exact hp⟩
theorem iteF {x : Bool} {k : Bool → Prop} (h : x = false) (hq : k false) : Fork x k := ⟨by rw [h]; exact hq⟩
theorem iteC {x : Bool} {k : Bool → Prop} (hp : x = true → k true) (hq : x = false → k false) : Fork x k := by
  cases x
  · exact ⟨hq rfl⟩
  · exact ⟨hp rfl⟩

section
variable (X : Ctx) (J : Jd) (I : Inls) (base : Nat)

def callP (f : Nat) (as : List AV) (site : Nat) (h : Heap) (k : AV → Heap → Prop) : Prop :=
  match memN f I with
  | true => J.inl f as h k
  | false => match shutAll (find h) as with
    | some bs => ∃ r, J.fn f bs r ∧ match adopt (find h) (freshId base h) site r with
      | some (v, d) => addK d h (k v)
      | none => False
    | none => False

def stepP (all : List Oper) (o : Oper) (ih : Env → Heap → (Env → Heap → Prop) → Prop) (e : Env) (h : Heap) (K : Env → Heap → Prop) : Prop :=
  match guardV X.G all (get e) o with
    | none => False
    | some false => match o.dst with
      | some t => ih ((t, .tup []) :: e) h K
      | none => ih e h K
    | some true => match callee X (get e) o with
      | some (f, as) => callP J I base f as ((o.dst.getD 0) * 8) h (fun v h' => forceO o v fun v => match o.dst with
        | some t => ih ((t, v) :: e) h' K
        | none => ih e h' K)
      | none => match nilCmp X (get e) o with
        | some (l, b) => ∀ y : Bool, (y = true → l = []) → forceO o (.p (.b (y == b))) fun v => match o.dst with
          | some t => ih ((t, v) :: e) h K
          | none => ih e h K
        | none => match opV X (get e) (find h) (freshId base h) o with
          | some (v, d) => addK d h (fun h' => forceO o v fun v => match o.dst with
            | some t => ih ((t, v) :: e) h' K
            | none => ih e h' K)
          | none => False

noncomputable def opsP (all : List Oper) (l : List Oper) : Env → Heap → (Env → Heap → Prop) → Prop :=
  List.rec (motive := fun _ => Env → Heap → (Env → Heap → Prop) → Prop) (fun e h K => K e h) (fun o _ ih => stepP X J I base all o ih) l

def disjN : List Nat → List Nat → Bool
  | [], _ => true
  | n :: l, m => match memN n m with
    | true => false
    | false => disjN l m

/-- Does an operation wait for another one, whatever order is drawn. -/
def waitsL (k : Nat) : List Edge → Bool
  | [] => false
  | e :: r => match Region.binds .any e with
    | true => match Nat.beq e.on k with
      | true => true
      | false => waitsL k r
    | false => waitsL k r

def dIds : Delta → List Nat
  | [] => []
  | (i, _) :: d => i :: dIds d

abbrev Foot := Nat × List Nat × List Nat

/-- Does an operation wait for another one, itself or by what it waits for. -/
def reachB (all : List Oper) (k : Nat) : Nat → Oper → Bool
  | 0, o => waitsL k o.after.toList
  | n + 1, o => match waitsL k o.after.toList with
    | true => true
    | false => o.after.toList.any fun e => match Region.binds .any e with
      | true => match all[e.on]? with
        | some o' => reachB all k n o'
        | none => false
      | false => false

/-- Of two operations of which none waits for the other, none may look at a block that the other makes or turns. -/
def footOK (all : List Oper) (o : Oper) (lk wr : List Nat) : List Foot → Bool
  | [] => true
  | (k, lk', wr') :: r => match waitsL k o.after.toList with
    | true => footOK all o lk wr r
    | false => match disjN wr' lk && disjN wr' wr && disjN wr lk' with
      | true => footOK all o lk wr r
      | false => match reachB all k 3 o with
        | true => footOK all o lk wr r
        | false => false

def stepD (all : List Oper) (o : Oper) (ih : Nat → List Foot → Env → Heap → (Env → Heap → Prop) → Prop) (k : Nat) (done : List Foot) (e : Env) (h : Heap) (K : Env → Heap → Prop) : Prop :=
  match guardV X.G all (get e) o with
    | none => False
    | some false => match o.dst with
      | some t => ih (k + 1) ((k, [], []) :: done) ((t, .tup []) :: e) h K
      | none => ih (k + 1) ((k, [], []) :: done) e h K
    | some true => match callee X (get e) o with
      | some (f, as) => match shutAll (restrict (find h) (looks X (get e) (fun s => base + s) o)) as with
        | some bs => ∃ rv, J.fn f bs rv ∧ match adopt (find h) (fun s => base + s) ((o.dst.getD 0) * 8) rv with
          | some (v, d) => match footOK all o (looks X (get e) (fun s => base + s) o) (dIds d) done with
            | true => addK d h (fun h' => forceO o v fun v => match o.dst with
              | some t => ih (k + 1) ((k, looks X (get e) (fun s => base + s) o, dIds d) :: done) ((t, v) :: e) h' K
              | none => ih (k + 1) ((k, looks X (get e) (fun s => base + s) o, dIds d) :: done) e h' K)
            | false => False
          | none => False
        | none => False
      | none => match opV X (get e) (restrict (find h) (looks X (get e) (fun s => base + s) o)) (fun s => base + s) o with
        | some (v, d) => match footOK all o (looks X (get e) (fun s => base + s) o) (dIds d) done with
          | true => addK d h (fun h' => forceO o v fun v => match o.dst with
            | some t => ih (k + 1) ((k, looks X (get e) (fun s => base + s) o, dIds d) :: done) ((t, v) :: e) h' K
            | none => ih (k + 1) ((k, looks X (get e) (fun s => base + s) o, dIds d) :: done) e h' K)
          | false => False
        | none => False

/-- A row of operations whose order is open: in the text's order, with a record of who looks at what. -/
noncomputable def opsD (all : List Oper) (k : Nat) (done : List Foot) (l : List Oper) : Env → Heap → (Env → Heap → Prop) → Prop :=
  List.rec (motive := fun _ => Nat → List Foot → Env → Heap → (Env → Heap → Prop) → Prop) (fun _ _ e h K => K e h) (fun o _ ih => stepD X J base all o ih) l k done

noncomputable def codeP (c : Code) : Env → Heap → (Ex → Env → Heap → Prop) → Prop :=
  Code.rec (motive := fun _ => Env → Heap → (Ex → Env → Heap → Prop) → Prop)
    (fun e h K => K .normal e h)
    (fun _ os d e h K => match d with
      | true => opsD X J base os.toList 0 [] os.toList e h (K .normal)
      | false => opsP X J I base os.toList os.toList e h (K .normal))
    (fun _ _ iha ihb e h K => iha e h (fun x e' h' => match x with
      | .normal => ihb e' h' K
      | .exit i => K (.exit i) e' h'
      | .ret => K .ret e' h'))
    (fun c _ _ iha ihb e h K => match ev X.G (get e) c with
      | .p (.b x) => match x with
        | true => iha e h K
        | false => ihb e h K
      | _ => False)
    (fun i _ ih e h K => ih e h (fun x e' h' => match x with
      | .normal => K .normal e' h'
      | .exit j => match Nat.beq j i with
        | true => K .normal e' h'
        | false => K (.exit j) e' h'
      | .ret => K .ret e' h'))
    (fun c _ e h K => J.loop base c e h K)
    (fun _ _ _ _ _ _ _ _ _ => False)
    (fun i e h K => K (.exit i) e h)
    (fun _ _ _ _ _ => False)
    (fun _ _ _ _ => False)
    (fun _ _ _ _ => False)
    (fun e h K => K .ret e h)
    (fun _ _ _ _ => False)
    c
end

section
variable {X : Ctx} {J : Jd} {I : Inls} {base : Nat}

theorem opsP_nil {all : List Oper} {e : Env} {h : Heap} {K : Env → Heap → Prop} : opsP X J I base all [] e h K = K e h := rfl
theorem opsP_cons {all : List Oper} {o : Oper} {r : List Oper} {e : Env} {h : Heap} {K : Env → Heap → Prop} : opsP X J I base all (o :: r) e h K = stepP X J I base all o (opsP X J I base all r) e h K := rfl
theorem opsD_nil {all : List Oper} {k : Nat} {done : List Foot} {e : Env} {h : Heap} {K : Env → Heap → Prop} : opsD X J base all k done [] e h K = K e h := rfl
theorem opsD_cons {all : List Oper} {k : Nat} {done : List Foot} {o : Oper} {r : List Oper} {e : Env} {h : Heap} {K : Env → Heap → Prop} :
    opsD X J base all k done (o :: r) e h K = stepD X J base all o (fun k done => opsD X J base all k done r) k done e h K := rfl
theorem codeP_skip {e : Env} {h : Heap} {K : Ex → Env → Heap → Prop} : codeP X J I base .skip e h K = K .normal e h := rfl
theorem codeP_region {i : Nat} {os : Array Oper} {d : Bool} {e : Env} {h : Heap} {K : Ex → Env → Heap → Prop} : codeP X J I base (.region i os d) e h K = match d with
    | true => opsD X J base os.toList 0 [] os.toList e h (K .normal)
    | false => opsP X J I base os.toList os.toList e h (K .normal) := rfl
theorem codeP_seq {a b : Code} {e : Env} {h : Heap} {K : Ex → Env → Heap → Prop} : codeP X J I base (.seq a b) e h K = codeP X J I base a e h (fun x e' h' => match x with
    | .normal => codeP X J I base b e' h' K
    | .exit i => K (.exit i) e' h'
    | .ret => K .ret e' h') := rfl
theorem codeP_cond {c : Operand} {a b : Code} {e : Env} {h : Heap} {K : Ex → Env → Heap → Prop} : codeP X J I base (.cond c a b) e h K = match ev X.G (get e) c with
    | .p (.b x) => match x with
      | true => codeP X J I base a e h K
      | false => codeP X J I base b e h K
    | _ => False := rfl
theorem codeP_block {i : Nat} {c : Code} {e : Env} {h : Heap} {K : Ex → Env → Heap → Prop} : codeP X J I base (.block i c) e h K = codeP X J I base c e h (fun x e' h' => match x with
    | .normal => K .normal e' h'
    | .exit j => match Nat.beq j i with
      | true => K .normal e' h'
      | false => K (.exit j) e' h'
    | .ret => K .ret e' h') := rfl
theorem codeP_loop {c : Code} {e : Env} {h : Heap} {K : Ex → Env → Heap → Prop} : codeP X J I base (.loop c) e h K = J.loop base c e h K := rfl
theorem codeP_exit {i : Nat} {e : Env} {h : Heap} {K : Ex → Env → Heap → Prop} : codeP X J I base (.exit i) e h K = K (.exit i) e h := rfl
theorem codeP_ret {e : Env} {h : Heap} {K : Ex → Env → Heap → Prop} : codeP X J I base .ret e h K = K .ret e h := rfl
end

/-- What a function hands back. -/
def resOne (X : Ctx) (ρ : Nat → AV) (L : HeapF) : ResultVar → Option AV
  | .tmp t => some (ρ t)
  | .cell t u => loadV X L u (ρ t)

def resAll (X : Ctx) (ρ : Nat → AV) (L : HeapF) : List ResultVar → Option (List AV)
  | [] => some []
  | r :: l => match resOne X ρ L r with
    | some v => match resAll X ρ L l with
      | some m => some (v :: m)
      | none => none
    | none => none

def resV (X : Ctx) (ρ : Nat → AV) (L : HeapF) (rs : List ResultVar) : Option AV :=
  match resAll X ρ L rs with
  | some [v] => some v
  | some l => some (.tup l)
  | none => none

def hd1 : List AV → AV
  | [] => .junk
  | x :: _ => x
def tl1 : List AV → List AV
  | [] => []
  | _ :: l => l
def parts1 : AV → List AV
  | .tup l => l
  | .st l => l
  | _ => []
/-- The nil slice is told as an empty one, of the shape that is asked for. -/
def toldN (g : AV) : AV :=
  match g with
  | .ro s _ => .ro s []
  | _ => .ro .one []

/-- What it hands back, as its caller is told. -/
def told1 (L : HeapF) (g : AV) : AV → Option AV
  | .p x => some (.p x)
  | .nil => some (toldN g)
  | .own id => match L id with
    | some (.els true s l) => some (.ro s l)
    | _ => none
  | .sl id 0 n => match L id with
    | some (.els true s l) => some (.ro s (l.take n))
    | _ => none
  | _ => none

def toldL (L : HeapF) : List AV → List AV → Option (List AV)
  | _, [] => some []
  | gs, x :: l => match told1 L (hd1 gs) x with
    | some y => match toldL L (tl1 gs) l with
      | some m => some (y :: m)
      | none => none
    | none => none

def toldT (L : HeapF) : List AV → List AV → Option (List AV)
  | _, [] => some []
  | gs, .st l :: r => match toldL L (parts1 (hd1 gs)) l with
    | some m => match toldT L (tl1 gs) r with
      | some n => some (.st m :: n)
      | none => none
    | none => none
  | gs, x :: r => match told1 L (hd1 gs) x with
    | some y => match toldT L (tl1 gs) r with
      | some n => some (y :: n)
      | none => none
    | none => none

def nodupN : List Nat → Bool
  | [] => true
  | n :: l => match memN n l with
    | true => false
    | false => nodupN l

def told (L : HeapF) (g : AV) (x : AV) : Option AV :=
  match nodupN x.refs with
  | true => match x with
    | .tup l => match toldT L (parts1 g) l with
      | some m => some (.tup m)
      | none => none
    | .st l => match toldL L (parts1 g) l with
      | some m => some (.st m)
      | none => none
    | x => told1 L g x
  | false => none

def bodyK (X : Ctx) (rs : List ResultVar) (K : AV → Heap → Prop) : Ex → Env → Heap → Prop
  | .exit _, _, _ => False
  | _, e, h => match resV X (get e) (find h) rs with
    | some v => K v h
    | none => False

def envOf : Nat → List AV → Env
  | _, [] => []
  | n, x :: l => (n, x) :: envOf (n + 1) l

end Go.Proofs.Ytmngcmfcbfkimaa.AM
