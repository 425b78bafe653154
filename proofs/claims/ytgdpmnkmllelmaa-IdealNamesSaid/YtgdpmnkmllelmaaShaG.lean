/- Sha: digests of words; hashes finished. -/
import Derived.Test.YtgdpmnkmllelmaaShaF
namespace Go.Proofs.Ytgdpmnkmllelmaa.AM
open Go Go.Proofs
set_option maxRecDepth 100000

theorem mid_get8 {L R : List Int} {x : Int} {t : Nat} (h : L.length = t) : getI (bv (L ++ x :: R)) (t : Int) = some (PV.i .u8 x) := by
  rw [getM (f := PV.i .u8) (l := L ++ x :: R) (i := t) (by simp; omega)]
  subst h
  simp
theorem mid_nth8 {L R : List Int} {x : Int} {t : Nat} (h : L.length = t) : (bv (L ++ x :: R))[(t : Int).toNat]? = some (PV.i .u8 x) := by
  rw [nthM (f := PV.i .u8) (l := L ++ x :: R) (i := t) (by simp; omega)]
  subst h
  simp
theorem mid_set8 {L R : List Int} {x v : Int} {t : Nat} (h : L.length = t) : (bv (L ++ x :: R)).set (t : Int).toNat (PV.i .u8 v) = bv (L ++ v :: R) := by
  subst h
  simp
def V8.l (v : V8) : List Int := [v.a, v.b, v.c, v.d, v.e, v.f, v.g, v.z]
def dg (v : V8) (i : Nat) : Int := byW (v.l.getD (i / 4) 0) (24 - 8 * ((i % 4 : Nat) : Int))
def dgL (v : V8) : Nat → List Int
  | 0 => []
  | i + 1 => dgL v i ++ [dg v i]
theorem dgL_length (v : V8) (i : Nat) : (dgL v i).length = i := by
  induction i with
  | zero => rfl
  | succ i ih => simp [dgL, ih]
set_option maxHeartbeats 4000000 in
theorem dgL_32 (v : V8) : dgL v 32 = digestV v := by
  simp only [dgL, List.nil_append, List.cons_append]
  rfl
theorem hw_get (v : V8) {i : Nat} (h : i < 8) : getI (hwl v) (i : Int) = some (PV.i .u32 (v.l.getD i 0)) := by
  show getI (wv v.l) (i : Int) = _
  have hl : i < v.l.length := h
  rw [getM (f := PV.i .u32) hl]
  simp [hl]
theorem hw_nth (v : V8) {i : Nat} (h : i < 8) : (hwl v)[(i : Int).toNat]? = some (PV.i .u32 (v.l.getD i 0)) := by
  show (wv v.l)[(i : Int).toNat]? = _
  have hl : i < v.l.length := h
  rw [nthM (f := PV.i .u32) hl]
  simp [hl]
theorem rep_cons {n m : Nat} (h : n = m + 1) : List.replicate n (0 : Int) = 0 :: List.replicate m 0 := by rw [h, List.replicate_succ]
def finishH (h : Hs) (n : Nat) : List Int := digestV (afterV h.w (h.r ++ padL n))
theorem byteU_byt (n s : Int) : 0 ≤ byteU n s ∧ byteU n s < 256 := by
  simp [byteU, IntKind.wrap, IntKind.signed, IntKind.bits]
  omega
theorem bytesU_byt8 (n : Int) (w : Nat) : byt (bytesU n w) := by
  induction w with
  | zero => intro x hx; simp [bytesU] at hx
  | succ w ih =>
    intro x hx
    rcases List.mem_cons.1 hx with rfl | hx
    · exact byteU_byt _ _
    · exact ih x hx
theorem padL_byt (n : Nat) : byt (padL n) := by
  intro x hx
  rcases List.mem_cons.1 hx with rfl | hx
  · decide
  · rcases List.mem_append.1 hx with hx | hx
    · rw [List.mem_replicate] at hx
      rw [hx.2]
      decide
    · exact bytesU_byt8 _ _ x hx
theorem zeros_lt (n : Nat) : zerosN n < 64 := Nat.mod_lt _ (by decide)
end Go.Proofs.Ytgdpmnkmllelmaa.AM
