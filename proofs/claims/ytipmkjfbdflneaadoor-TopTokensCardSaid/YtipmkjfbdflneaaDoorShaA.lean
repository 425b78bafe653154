/- Sha: words, and what the functions over one block compute. -/
import Derived.Test.YtipmkjfbdflneaaDoorBaseD
namespace Go.Proofs.YtipmkjfbdflneaaDoor.AM
open Go Go.Proofs
set_option maxRecDepth 100000

def x32 (a b : Int) : Int := IntKind.u32.wrap (BitVec.ofInt IntKind.u32.bits a ^^^ BitVec.ofInt IntKind.u32.bits b).toNat
def o32 (a b : Int) : Int := IntKind.u32.wrap (BitVec.ofInt IntKind.u32.bits a ||| BitVec.ofInt IntKind.u32.bits b).toNat
def n32 (a b : Int) : Int := IntKind.u32.wrap (BitVec.ofInt IntKind.u32.bits a &&& BitVec.ofInt IntKind.u32.bits b).toNat
def a32 (a b : Int) : Int := IntKind.u32.wrap (a + b)
def c32 (a : Int) : Int := IntKind.u32.wrap (BitVec.ofInt IntKind.u32.bits (if IntKind.u32.signed then -1 else IntKind.u32.max) ^^^ BitVec.ofInt IntKind.u32.bits a).toNat
def sr32 (x n : Int) : Int := x.fdiv (2 ^ (min n.toNat IntKind.u32.bits))
def sl32 (x n : Int) : Int := IntKind.u32.wrap (x * 2 ^ (min n.toNat IntKind.u32.bits))
def rs (k : Int) : Int := IntKind.u64.wrap (BitVec.ofInt IntKind.u64.bits (IntKind.u64.wrap k) &&& BitVec.ofInt IntKind.u64.bits 31).toNat
def rotl (x k : Int) : Int := o32 (sl32 x (rs k)) (sr32 x (IntKind.u64.wrap (32 - rs k)))
def rot (x n : Int) : Int := o32 (sr32 x n) (sl32 x (IntKind.i64.wrap (32 - n)))
theorem wneg (n : Int) : decide (IntKind.u64.wrap n < 0) = false := by
  refine decide_eq_false ?_
  simp [IntKind.wrap, IntKind.signed, IntKind.bits]
  omega
theorem f105_ok (x k : Int) : Fn Tryd.prog X.G 105 [.p (.i .u32 x), .p (.i .i64 k)] (.p (.i .u32 (rotl x k))) := by
  refine Fn.intro (I := []) hX hm 0 Tryd.func105 rfl rfl (by kernel_rfl) rfl ?_
  conv => whnf
  conv => arg 2; repeat (first | rw [wneg _] | (whnf; arg 2))
  conv => whnf
  conv => arg 2; repeat (first | rw [wneg _] | (whnf; arg 2))
  conv => whnf
  rfl
def turnsL (x : Int) (ns : List Int) : Int := ns.foldl (fun o n => x32 o (rotl x (IntKind.i64.wrap (0 - n)))) 0
theorem turnsL_step (x : Int) {ns : List Int} {i : Nat} (h : i < ns.length) : turnsL x (ns.take (i + 1)) = x32 (turnsL x (ns.take i)) (rotl x (IntKind.i64.wrap (0 - ns[i]))) := by
  unfold turnsL
  rw [List.take_add_one, List.getElem?_eq_getElem h, List.foldl_append]
  rfl
theorem f103_ok (x : Int) (ns : List Int) (hl : ns.length < 9223372036854775807) : Fn Tryd.prog X.G 103 [.p (.i .u32 x), .ro (.int .i64) (ns.map (.i .i64))] (.p (.i .u32 (turnsL x ns))) := by
  refine Fn.intro (I := []) hX hm 0 Tryd.func103 rfl rfl (by kernel_rfl) rfl ?_
  conv => whnf
  refine LoopJ.intro (I := []) (base' := 0) hX hm (by kernel_rfl) (σ := Nat) (fun i => [(0, .p (.i .u32 x)), (8, .ro (.int .i64) (ns.map (.i .i64))), (9, .p (.i .i64 (ns.map (PV.i .i64)).length)), (10, .p (.i .i64 i)), (5, .p (.i .u32 (turnsL x (ns.take i))))]) (fun _ => []) (fun i => i ≤ ns.length) (fun i => ns.length - i) 0 []
    (Nat.zero_le _) ⟨nofun, rfl, ⟨rfl, rfl, rfl, rfl, rfl, rfl, rfl, rfl, rfl, rfl, trivial⟩, trivial⟩ ?_
  intro i hi
  conv => whnf
  refine iteC (fun h => ?_) (fun h => ?_)
  · have h := of_decide_eq_true h
    rw [List.length_map] at h
    have hlt : i < ns.length := by omega
    have hg := getM (f := PV.i .i64) hlt
    conv => whnf
    conv => arg 2; repeat (first | rw [hg] | (whnf; arg 2))
    conv => whnf
    refine ⟨_, f105_ok x (IntKind.i64.wrap (0 - ns[i])), ?_⟩
    conv => whnf
    refine ⟨i + 1, [], by omega, by dsimp only; omega, nofun, rfl, ⟨rfl, rfl, rfl, rfl, rfl, rfl, incN (by omega), rfl, ?_, rfl, trivial⟩, trivial⟩
    rw [turnsL_step x hlt]
    rfl
  · have h := of_decide_eq_false h
    rw [List.length_map] at h
    have htk : ns.take i = ns := List.take_of_length_le (by omega)
    rw [htk]
    rfl
theorem wrN (n : Nat) : IntKind.u32.wrap (n : Int) = ((n % 4294967296 : Nat) : Int) := by
  simp [IntKind.wrap, IntKind.signed, IntKind.bits]
theorem o32_comm (a b : Int) : o32 a b = o32 b a := by unfold o32; rw [BitVec.or_comm]
theorem u32_range (n : Int) : 0 ≤ IntKind.u32.wrap n ∧ IntKind.u32.wrap n < 4294967296 := by
  simp [IntKind.wrap, IntKind.signed, IntKind.bits]
  omega
theorem x32_zero {a : Int} (h : 0 ≤ a) (h2 : a < 4294967296) : x32 0 a = a := by
  obtain ⟨n, rfl⟩ := Int.eq_ofNat_of_zero_le h
  unfold x32
  have : BitVec.ofInt IntKind.u32.bits 0 = 0#32 := rfl
  rw [this]
  show IntKind.u32.wrap ((0#32 ^^^ BitVec.ofInt 32 (n : Int)).toNat : Int) = n
  rw [BitVec.zero_xor, BitVec.ofInt_natCast, BitVec.toNat_ofNat, wrN]
  omega
theorem rotl_rot (x : Int) : rotl x (IntKind.i64.wrap (0 - 2)) = rot x 2 ∧ rotl x (IntKind.i64.wrap (0 - 6)) = rot x 6 ∧ rotl x (IntKind.i64.wrap (0 - 7)) = rot x 7 ∧ rotl x (IntKind.i64.wrap (0 - 11)) = rot x 11 ∧
    rotl x (IntKind.i64.wrap (0 - 13)) = rot x 13 ∧ rotl x (IntKind.i64.wrap (0 - 17)) = rot x 17 ∧ rotl x (IntKind.i64.wrap (0 - 18)) = rot x 18 ∧ rotl x (IntKind.i64.wrap (0 - 19)) = rot x 19 ∧
    rotl x (IntKind.i64.wrap (0 - 22)) = rot x 22 ∧ rotl x (IntKind.i64.wrap (0 - 25)) = rot x 25 := by
  refine ⟨?_, ?_, ?_, ?_, ?_, ?_, ?_, ?_, ?_, ?_⟩ <;> (unfold rotl rot; rw [o32_comm]; congr 1)
theorem rot_range (x n : Int) : 0 ≤ rot x n ∧ rot x n < 4294967296 := u32_range _
theorem turns_a (x : Int) : turnsL x [7, 18] = x32 (rot x 7) (rot x 18) := by
  show x32 (x32 0 _) _ = _
  rw [(rotl_rot x).2.2.1, (rotl_rot x).2.2.2.2.2.2.1, x32_zero (rot_range _ _).1 (rot_range _ _).2]
theorem turns_b (x : Int) : turnsL x [17, 19] = x32 (rot x 17) (rot x 19) := by
  show x32 (x32 0 _) _ = _
  rw [(rotl_rot x).2.2.2.2.2.1, (rotl_rot x).2.2.2.2.2.2.2.1, x32_zero (rot_range _ _).1 (rot_range _ _).2]
theorem turns_c (x : Int) : turnsL x [6, 11, 25] = x32 (x32 (rot x 6) (rot x 11)) (rot x 25) := by
  show x32 (x32 (x32 0 _) _) _ = _
  rw [(rotl_rot x).2.1, (rotl_rot x).2.2.2.1, (rotl_rot x).2.2.2.2.2.2.2.2.2, x32_zero (rot_range _ _).1 (rot_range _ _).2]
theorem turns_d (x : Int) : turnsL x [2, 13, 22] = x32 (x32 (rot x 2) (rot x 13)) (rot x 22) := by
  show x32 (x32 (x32 0 _) _) _ = _
  rw [(rotl_rot x).1, (rotl_rot x).2.2.2.2.1, (rotl_rot x).2.2.2.2.2.2.2.2.1, x32_zero (rot_range _ _).1 (rot_range _ _).2]

def s0 (x : Int) : Int := x32 (x32 (rot x 7) (rot x 18)) (sr32 x 3)
def s1 (x : Int) : Int := x32 (x32 (rot x 17) (rot x 19)) (sr32 x 10)
def wordN (b : List Int) (t : Nat) : Int := 16777216 * b.getD (4 * t) 0 + 65536 * b.getD (4 * t + 1) 0 + 256 * b.getD (4 * t + 2) 0 + b.getD (4 * t + 3) 0
def nxt (l : List Int) (t : Nat) : Int := a32 (a32 (a32 (l.getD (t - 16) 0) (l.getD (t - 7) 0)) (s0 (l.getD (t - 15) 0))) (s1 (l.getD (t - 2) 0))
def W (b : List Int) : Nat → List Int
  | 0 => []
  | t + 1 => W b t ++ [if t < 16 then wordN b t else nxt (W b t) t]
theorem W_length (b : List Int) (t : Nat) : (W b t).length = t := by
  induction t with
  | zero => rfl
  | succ t ih => simp [W, ih]
structure V8 where
  a : Int
  b : Int
  c : Int
  d : Int
  e : Int
  f : Int
  g : Int
  z : Int
def rnd (v : V8) (k w : Int) : V8 :=
  let p := a32 (a32 (a32 (a32 v.z (x32 (x32 (rot v.e 6) (rot v.e 11)) (rot v.e 25))) (x32 (n32 v.e v.f) (n32 (c32 v.e) v.g))) k) w
  let q := a32 (x32 (x32 (rot v.a 2) (rot v.a 13)) (rot v.a 22)) (x32 (x32 (n32 v.a v.b) (n32 v.a v.c)) (n32 v.b v.c))
  ⟨a32 p q, v.a, v.b, v.c, a32 v.d p, v.e, v.f, v.g⟩
def Rn (h : V8) (w : List Int) : Nat → V8
  | 0 => h
  | t + 1 => rnd (Rn h w t) (constsL.getD t 0) (w.getD t 0)
def V8.plus (h v : V8) : V8 := ⟨a32 h.a v.a, a32 h.b v.b, a32 h.c v.c, a32 h.d v.d, a32 h.e v.e, a32 h.f v.f, a32 h.g v.g, a32 h.z v.z⟩
def takeV (h : V8) (b : List Int) : V8 := h.plus (Rn h (W b 64) 64)
abbrev hwl (v : V8) : List PV := [.i .u32 v.a, .i .u32 v.b, .i .u32 v.c, .i .u32 v.d, .i .u32 v.e, .i .u32 v.f, .i .u32 v.g, .i .u32 v.z]
abbrev hw (v : V8) : PV := .arr 8 wsh (hwl v)
def first : V8 := ⟨0x6a09e667, 0xbb67ae85, 0x3c6ef372, 0xa54ff53a, 0x510e527f, 0x9b05688c, 0x1f83d9ab, 0x5be0cd19⟩
instance : DecidableEq V8 := fun x y =>
  if h : x.a = y.a ∧ x.b = y.b ∧ x.c = y.c ∧ x.d = y.d ∧ x.e = y.e ∧ x.f = y.f ∧ x.g = y.g ∧ x.z = y.z then isTrue (by cases x; cases y; simp_all) else isFalse (by rintro rfl; exact h ⟨rfl, rfl, rfl, rfl, rfl, rfl, rfl, rfl⟩)
theorem or_step32 {n x : Int} (h1 : 0 ≤ n) (h2 : n < 16777216) (h3 : 0 ≤ x) (h4 : x < 256) : o32 (sl32 n 8) (IntKind.u32.wrap x) = 256 * n + x := by
  obtain ⟨m, rfl⟩ := Int.eq_ofNat_of_zero_le h1
  obtain ⟨y, rfl⟩ := Int.eq_ofNat_of_zero_le h3
  have e1 : sl32 (m : Int) 8 = ((256 * m : Nat) : Int) := by
    show IntKind.u32.wrap ((m : Int) * 2 ^ 8) = _
    rw [show ((m : Int) * 2 ^ 8) = ((256 * m : Nat) : Int) by omega, wrN]
    omega
  unfold o32
  rw [e1, wrN]
  show IntKind.u32.wrap ((BitVec.ofInt 32 ((256 * m : Nat) : Int) ||| BitVec.ofInt 32 ((y % 4294967296 : Nat) : Int)).toNat : Int) = _
  have e3 : (BitVec.ofInt 32 ((256 * m : Nat) : Int) ||| BitVec.ofInt 32 ((y % 4294967296 : Nat) : Int)).toNat = 256 * m + y := by
    rw [BitVec.toNat_or, BitVec.ofInt_natCast, BitVec.ofInt_natCast, BitVec.toNat_ofNat, BitVec.toNat_ofNat, Nat.mod_eq_of_lt (by omega), Nat.mod_eq_of_lt (by omega), Nat.mod_eq_of_lt (by omega)]
    have := Nat.shiftLeft_add_eq_or_of_lt (a := m) (b := y) (i := 8) (by omega)
    rw [Nat.shiftLeft_eq] at this
    rw [show 256 * m = m * 2 ^ 8 by omega, ← this]
  rw [e3, wrN]
  omega
end Go.Proofs.YtipmkjfbdflneaaDoor.AM
