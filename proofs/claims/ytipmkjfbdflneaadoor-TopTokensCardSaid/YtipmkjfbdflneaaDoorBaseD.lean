/- The seat's types and the variables that are read; bytes as plain data. -/
import Derived.Test.YtipmkjfbdflneaaDoorAmC
import Derived.Test.YtipmkjfbdflneaaDoorProg
namespace Go.Proofs.YtipmkjfbdflneaaDoor.AM
open Go Go.Proofs

def tt : TT := [
  (2, ⟨.int .i64, 1, 8, false, some (.p (.i .i64 0))⟩),
  (3, ⟨.int .i64, 1, 8, false, some (.p (.i .i64 0))⟩),
  (4, ⟨.bool, 1, 1, false, some (.p (.b false))⟩),
  (5, ⟨.int .u8, 1, 1, false, some (.p (.i .u8 0))⟩),
  (9, ⟨.str, 1, 16, false, some (.p (.str ⟨#[]⟩))⟩),
  (12, ⟨.int .u64, 1, 8, false, some (.p (.i .u64 0))⟩),
  (21, ⟨.int .i32, 1, 4, false, some (.p (.i .i32 0))⟩),
  (22, ⟨.arr 32 5, 32, 32, true, some (.p (.arr 32 (.int .u8) (List.replicate 32 (.i .u8 0))))⟩),
  (23, ⟨.arr 32 5, 32, 32, true, some (.p (.arr 32 (.int .u8) (List.replicate 32 (.i .u8 0))))⟩),
  (24, ⟨.int .u32, 1, 4, false, some (.p (.i .u32 0))⟩),
  (25, ⟨.int .u64, 1, 8, false, some (.p (.i .u64 0))⟩),
  (26, ⟨.st [(0, 24), (1, 24), (2, 24), (3, 25), (4, 23)], 36, 56, true, some (.p (.st [(.i .u32 0), (.i .u32 0), (.i .u32 0), (.i .u64 0), (.arr 32 (.int .u8) (List.replicate 32 (.i .u8 0)))]))⟩),
  (27, ⟨.st [(0, 24), (1, 24), (2, 24), (3, 25), (4, 23)], 36, 56, true, some (.p (.st [(.i .u32 0), (.i .u32 0), (.i .u32 0), (.i .u64 0), (.arr 32 (.int .u8) (List.replicate 32 (.i .u8 0)))]))⟩),
  (28, ⟨.int .u16, 1, 2, false, some (.p (.i .u16 0))⟩),
  (29, ⟨.st [(0, 27), (36, 28), (37, 24)], 38, 64, true, some (.p (.st [(.st [(.i .u32 0), (.i .u32 0), (.i .u32 0), (.i .u64 0), (.arr 32 (.int .u8) (List.replicate 32 (.i .u8 0)))]), (.i .u16 0), (.i .u32 0)]))⟩),
  (30, ⟨.st [(0, 27), (36, 28), (37, 24)], 38, 64, true, some (.p (.st [(.st [(.i .u32 0), (.i .u32 0), (.i .u32 0), (.i .u64 0), (.arr 32 (.int .u8) (List.replicate 32 (.i .u8 0)))]), (.i .u16 0), (.i .u32 0)]))⟩),
  (31, ⟨.st [(0, 2), (1, 2), (2, 2)], 3, 24, true, some (.p (.st [(.i .i64 0), (.i .i64 0), (.i .i64 0)]))⟩),
  (32, ⟨.st [(0, 2), (1, 2), (2, 2)], 3, 24, true, some (.p (.st [(.i .i64 0), (.i .i64 0), (.i .i64 0)]))⟩),
  (33, ⟨.arr 3 32, 9, 72, true, some (.p (.arr 3 (.st [(.int .i64), (.int .i64), (.int .i64)]) (List.replicate 3 (.st [(.i .i64 0), (.i .i64 0), (.i .i64 0)]))))⟩),
  (34, ⟨.st [(0, 5), (1, 24), (2, 24), (3, 33), (12, 5), (13, 5), (14, 25), (15, 23)], 47, 136, true, some (.p (.st [(.i .u8 0), (.i .u32 0), (.i .u32 0), (.arr 3 (.st [(.int .i64), (.int .i64), (.int .i64)]) (List.replicate 3 (.st [(.i .i64 0), (.i .i64 0), (.i .i64 0)]))), (.i .u8 0), (.i .u8 0), (.i .u64 0), (.arr 32 (.int .u8) (List.replicate 32 (.i .u8 0)))]))⟩),
  (35, ⟨.st [(0, 5), (1, 24), (2, 24), (3, 33), (12, 5), (13, 5), (14, 25), (15, 23)], 47, 136, true, some (.p (.st [(.i .u8 0), (.i .u32 0), (.i .u32 0), (.arr 3 (.st [(.int .i64), (.int .i64), (.int .i64)]) (List.replicate 3 (.st [(.i .i64 0), (.i .i64 0), (.i .i64 0)]))), (.i .u8 0), (.i .u8 0), (.i .u64 0), (.arr 32 (.int .u8) (List.replicate 32 (.i .u8 0)))]))⟩),
  (36, ⟨.st [(0, 5), (1, 30), (39, 35)], 86, 208, true, some (.p (.st [(.i .u8 0), (.st [(.st [(.i .u32 0), (.i .u32 0), (.i .u32 0), (.i .u64 0), (.arr 32 (.int .u8) (List.replicate 32 (.i .u8 0)))]), (.i .u16 0), (.i .u32 0)]), (.st [(.i .u8 0), (.i .u32 0), (.i .u32 0), (.arr 3 (.st [(.int .i64), (.int .i64), (.int .i64)]) (List.replicate 3 (.st [(.i .i64 0), (.i .i64 0), (.i .i64 0)]))), (.i .u8 0), (.i .u8 0), (.i .u64 0), (.arr 32 (.int .u8) (List.replicate 32 (.i .u8 0)))])]))⟩),
  (37, ⟨.st [(0, 5), (1, 30), (39, 35)], 86, 208, true, some (.p (.st [(.i .u8 0), (.st [(.st [(.i .u32 0), (.i .u32 0), (.i .u32 0), (.i .u64 0), (.arr 32 (.int .u8) (List.replicate 32 (.i .u8 0)))]), (.i .u16 0), (.i .u32 0)]), (.st [(.i .u8 0), (.i .u32 0), (.i .u32 0), (.arr 3 (.st [(.int .i64), (.int .i64), (.int .i64)]) (List.replicate 3 (.st [(.i .i64 0), (.i .i64 0), (.i .i64 0)]))), (.i .u8 0), (.i .u8 0), (.i .u64 0), (.arr 32 (.int .u8) (List.replicate 32 (.i .u8 0)))])]))⟩),
  (40, ⟨.int .i64, 1, 8, false, some (.p (.i .i64 0))⟩),
  (43, ⟨.slice 5, 1, 24, false, some (.nil)⟩),
  (48, ⟨.arr 3 24, 3, 12, true, some (.p (.arr 3 (.int .u32) (List.replicate 3 (.i .u32 0))))⟩),
  (49, ⟨.st [(0, 5), (1, 24), (2, 48), (5, 25)], 6, 32, true, some (.p (.st [(.i .u8 0), (.i .u32 0), (.arr 3 (.int .u32) (List.replicate 3 (.i .u32 0))), (.i .u64 0)]))⟩),
  (50, ⟨.st [(0, 5), (1, 24), (2, 48), (5, 25)], 6, 32, true, some (.p (.st [(.i .u8 0), (.i .u32 0), (.arr 3 (.int .u32) (List.replicate 3 (.i .u32 0))), (.i .u64 0)]))⟩),
  (56, ⟨.slice 27, 1, 24, false, some (.nil)⟩),
  (57, ⟨.slice 35, 1, 24, false, some (.nil)⟩),
  (58, ⟨.st [(0, 56), (1, 57)], 2, 48, true, some (.st [.nil, .nil])⟩),
  (59, ⟨.st [(0, 56), (1, 57)], 2, 48, true, some (.st [.nil, .nil])⟩),
  (79, ⟨.slice 82, 1, 24, false, some (.nil)⟩),
  (81, ⟨.st [(0, 5), (1, 25), (2, 23)], 34, 48, true, some (.p (.st [(.i .u8 0), (.i .u64 0), (.arr 32 (.int .u8) (List.replicate 32 (.i .u8 0)))]))⟩),
  (82, ⟨.st [(0, 5), (1, 25), (2, 23)], 34, 48, true, some (.p (.st [(.i .u8 0), (.i .u64 0), (.arr 32 (.int .u8) (List.replicate 32 (.i .u8 0)))]))⟩),
  (96, ⟨.arr 20 5, 20, 20, true, some (.p (.arr 20 (.int .u8) (List.replicate 20 (.i .u8 0))))⟩),
  (121, ⟨.arr 3 2, 3, 24, true, some (.p (.arr 3 (.int .i64) (List.replicate 3 (.i .i64 0))))⟩),
  (123, ⟨.other, 1, 8, false, some (.nilf)⟩),
  (129, ⟨.arr 64 5, 64, 64, true, some (.p (.arr 64 (.int .u8) (List.replicate 64 (.i .u8 0))))⟩),
  (136, ⟨.map 9 4, 1, 8, false, some (.nilm)⟩),
  (147, ⟨.arr 8 3, 8, 64, true, some (.p (.arr 8 (.int .i64) (List.replicate 8 (.i .i64 0))))⟩),
  (150, ⟨.int .u64, 1, 8, false, some (.p (.i .u64 0))⟩),
  (152, ⟨.arr 8 24, 8, 32, true, some (.p (.arr 8 (.int .u32) (List.replicate 8 (.i .u32 0))))⟩),
  (153, ⟨.st [(0, 152), (8, 43), (9, 3)], 10, 64, true, some (.st [.p (.arr 8 (.int .u32) (List.replicate 8 (.i .u32 0))), .nil, .p (.i .i64 0)])⟩),
  (154, ⟨.st [(0, 152), (8, 43), (9, 3)], 10, 64, true, some (.st [.p (.arr 8 (.int .u32) (List.replicate 8 (.i .u32 0))), .nil, .p (.i .i64 0)])⟩),
  (166, ⟨.slice 43, 1, 24, false, some (.nil)⟩),
  (168, ⟨.arr 64 24, 64, 256, true, some (.p (.arr 64 (.int .u32) (List.replicate 64 (.i .u32 0))))⟩),
  (170, ⟨.slice 24, 1, 24, false, some (.nil)⟩),
  (172, ⟨.slice 3, 1, 24, false, some (.nil)⟩)
]
def constsL : List Int := [0x428a2f98, 0x71374491, 0xb5c0fbcf, 0xe9b5dba5, 0x3956c25b, 0x59f111f1, 0x923f82a4, 0xab1c5ed5,
  0xd807aa98, 0x12835b01, 0x243185be, 0x550c7dc3, 0x72be5d74, 0x80deb1fe, 0x9bdc06a7, 0xc19bf174,
  0xe49b69c1, 0xefbe4786, 0x0fc19dc6, 0x240ca1cc, 0x2de92c6f, 0x4a7484aa, 0x5cb0a9dc, 0x76f988da,
  0x983e5152, 0xa831c66d, 0xb00327c8, 0xbf597fc7, 0xc6e00bf3, 0xd5a79147, 0x06ca6351, 0x14292967,
  0x27b70a85, 0x2e1b2138, 0x4d2c6dfc, 0x53380d13, 0x650a7354, 0x766a0abb, 0x81c2c92e, 0x92722c85,
  0xa2bfe8a1, 0xa81a664b, 0xc24b8b70, 0xc76c51a3, 0xd192e819, 0xd6990624, 0xf40e3585, 0x106aa070,
  0x19a4c116, 0x1e376c08, 0x2748774c, 0x34b0bcb5, 0x391c0cb3, 0x4ed8aa4a, 0x5b9cca4f, 0x682e6ff3,
  0x748f82ee, 0x78a5636f, 0x84c87814, 0x8cc70208, 0x90befffa, 0xa4506ceb, 0xbef9a3f7, 0xc67178f2]
def firstL : List Int := [0x6a09e667, 0xbb67ae85, 0x3c6ef372, 0xa54ff53a, 0x510e527f, 0x9b05688c, 0x1f83d9ab, 0x5be0cd19]
abbrev ush : Sh := .int .u8
abbrev wsh : Sh := .int .u32
abbrev zd : List Int := List.replicate 32 0
abbrev dsh : Sh := .arr 32 ush
abbrev bv (l : List Int) : List PV := l.map (.i .u8)
abbrev bvs (l : List Int) : AV := .ro ush (bv l)
abbrev dv (d : List Int) : PV := .arr 32 ush (bv d)
abbrev wv (l : List Int) : List PV := l.map (.i .u32)
def X : Ctx := ⟨tt, [(1, .arr 64 wsh (wv constsL)), (0, .arr 8 wsh (wv firstL))]⟩
theorem hX : X.ok Tryd.prog := ttB_ok (by kernel_rfl)
theorem hm : Tryd.prog.follows .mixedOrders = true := by kernel_rfl
set_option maxRecDepth 100000
def byt (l : List Int) : Prop := ∀ x ∈ l, 0 ≤ x ∧ x < 256
theorem bs_of {l : List PV} (h : ∀ y ∈ l, y.sh = .int .u8 ∧ y.ok ∧ y.wf) : ∃ b : List Int, l = bv b ∧ byt b := by
  obtain ⟨b, h1, h2⟩ := ints_of h
  exact ⟨b, h1, fun x hx => wf_u8 (h2 x hx)⟩
theorem bv_snoc (l : List Int) (x : Int) : bv (l ++ [x]) = bv l ++ [.i .u8 x] := by simp
theorem bv_app (l m : List Int) : bv (l ++ m) = bv l ++ bv m := by simp
theorem wv_snoc (l : List Int) (x : Int) : wv (l ++ [x]) = wv l ++ [.i .u32 x] := by simp
theorem wv_app (l m : List Int) : wv (l ++ m) = wv l ++ wv m := by simp
def byteU (n : Int) (s : Int) : Int := IntKind.u8.wrap (n.fdiv (2 ^ (min s.toNat 64)))
def bytesU (n : Int) : Nat → List Int
  | 0 => []
  | w + 1 => byteU n (8 * w) :: bytesU n w
theorem bytesU_length (n : Int) (w : Nat) : (bytesU n w).length = w := by
  induction w with
  | zero => rfl
  | succ w ih => simp [bytesU, ih]
theorem bytesU_get (n : Int) {w i : Nat} (h : i < w) : (bytesU n w)[i]'(by rw [bytesU_length]; exact h) = byteU n (8 * (w - 1 - i : Nat)) := by
  induction w generalizing i with
  | zero => omega
  | succ w ih =>
    cases i with
    | zero => simp [bytesU]
    | succ i =>
      simp only [bytesU, List.getElem_cons_succ]
      rw [ih (by omega)]
      congr 3
      omega
theorem bytesU_step (n : Int) {w i : Nat} (h : i < w) : (bytesU n w).take (i + 1) = (bytesU n w).take i ++ [byteU n (8 * (w - 1 - i : Nat))] := by
  rw [List.take_add_one, List.getElem?_eq_getElem (by rw [bytesU_length]; exact h), bytesU_get n h]
  rfl
theorem ltF {a b : Int} (h : ¬ a < b) : Int.decLt a b = .isFalse h := Subsingleton.elim _ _
theorem ltT {a b : Int} (h : a < b) : Int.decLt a b = .isTrue h := Subsingleton.elim _ _
theorem leF {a b : Int} (h : ¬ a ≤ b) : Int.decLe a b = .isFalse h := Subsingleton.elim _ _
theorem leT {a b : Int} (h : a ≤ b) : Int.decLe a b = .isTrue h := Subsingleton.elim _ _
end Go.Proofs.YtipmkjfbdflneaaDoor.AM
