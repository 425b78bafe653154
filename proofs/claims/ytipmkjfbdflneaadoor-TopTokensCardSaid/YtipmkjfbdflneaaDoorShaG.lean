/- Sha: digests of words; hashes finished. -/
import Derived.Test.YtipmkjfbdflneaaDoorShaF
namespace Go.Proofs.YtipmkjfbdflneaaDoor.AM
open Go Go.Proofs
set_option maxRecDepth 100000

theorem mid_get8 {L R : List Int} {x : Int} {t : Nat} (h : L.length = t) : getI (bv (L ++ x :: R)) (t : Int) = some (PV.i .u8 x) := by
  rw [getM (f := PV.i .u8) (l := L ++ x :: R) (i := t) (by simp; omega)]
  subst h
  simp
theorem mid_nth8 {L R : List Int} {x : Int} {t : Nat} (h : L.length = t) : (bv (L ++ x :: R))[(t : Int).toNat]? = some (PV.i .u8 x) := by
  rw [nthM (f := PV.i .u8) (l := L ++ x :: R) (i := t) (by simp; omega)]
  subst h
  simp
theorem mid_set8 {L R : List Int} {x v : Int} {t : Nat} (h : L.length = t) : (bv (L ++ x :: R)).set (t : Int).toNat (PV.i .u8 v) = bv (L ++ v :: R) := by
  subst h
  simp
def V8.l (v : V8) : List Int := [v.a, v.b, v.c, v.d, v.e, v.f, v.g, v.z]
def dg (v : V8) (i : Nat) : Int := byW (v.l.getD (i / 4) 0) (24 - 8 * ((i % 4 : Nat) : Int))
def dgL (v : V8) : Nat → List Int
  | 0 => []
  | i + 1 => dgL v i ++ [dg v i]
theorem dgL_length (v : V8) (i : Nat) : (dgL v i).length = i := by
  induction i with
  | zero => rfl
  | succ i ih => simp [dgL, ih]
set_option maxHeartbeats 4000000 in
theorem dgL_32 (v : V8) : dgL v 32 = digestV v := by
  simp only [dgL, List.nil_append, List.cons_append]
  rfl
theorem hw_get (v : V8) {i : Nat} (h : i < 8) : getI (hwl v) (i : Int) = some (PV.i .u32 (v.l.getD i 0)) := by
  show getI (wv v.l) (i : Int) = _
  have hl : i < v.l.length := h
  rw [getM (f := PV.i .u32) hl]
  simp [hl]
theorem hw_nth (v : V8) {i : Nat} (h : i < 8) : (hwl v)[(i : Int).toNat]? = some (PV.i .u32 (v.l.getD i 0)) := by
  show (wv v.l)[(i : Int).toNat]? = _
  have hl : i < v.l.length := h
  rw [nthM (f := PV.i .u32) hl]
  simp [hl]
theorem rep_cons {n m : Nat} (h : n = m + 1) : List.replicate n (0 : Int) = 0 :: List.replicate m 0 := by rw [h, List.replicate_succ]
def finishH (h : Hs) (n : Nat) : List Int := digestV (afterV h.w (h.r ++ padL n))
theorem byteU_byt (n s : Int) : 0 ≤ byteU n s ∧ byteU n s < 256 := by
  simp [byteU, IntKind.wrap, IntKind.signed, IntKind.bits]
  omega
theorem bytesU_byt8 (n : Int) (w : Nat) : byt (bytesU n w) := by
  induction w with
  | zero => intro x hx; simp [bytesU] at hx
  | succ w ih =>
    intro x hx
    rcases List.mem_cons.1 hx with rfl | hx
    · exact byteU_byt _ _
    · exact ih x hx
theorem padL_byt (n : Nat) : byt (padL n) := by
  intro x hx
  rcases List.mem_cons.1 hx with rfl | hx
  · decide
  · rcases List.mem_append.1 hx with hx | hx
    · rw [List.mem_replicate] at hx
      rw [hx.2]
      decide
    · exact bytesU_byt8 _ _ x hx
theorem zeros_lt (n : Nat) : zerosN n < 64 := Nat.mod_lt _ (by decide)
set_option maxHeartbeats 8000000 in
theorem f91_ok (h : Hs) (n : Nat) (hn : h.n = n) (hn2 : n ≤ 200000) (hr : byt h.r) (lr : h.r.length ≤ 400000) : Fn Tryd.prog X.G 91 [hsv h] (.p (dv (finishH h n))) := by
  refine Fn.intro (I := []) hX hm 0 Tryd.func91 rfl rfl (by kernel_rfl) rfl ?_
  have cp := f97_ok n hn2
  have hz := zeros_lt n
  have cw := f92_ok h (padL n) hr (padL_byt n) lr (by rw [padL_length]; omega)
  rw [← hn] at cp
  unfold finishH
  rw [← dgL_32, show afterV h.w (h.r ++ padL n) = (writeH h (padL n)).w from rfl]
  generalize writeH h (padL n) = g at *
  obtain ⟨v, r, m⟩ := g
  dsimp only at *
  conv => whnf
  refine ⟨_, cp, ?_⟩
  conv => whnf
  refine ⟨_, cw, ?_⟩
  conv => whnf
  refine LoopJ.intro (I := []) (base' := 0) hX hm (by kernel_rfl) (σ := Nat) (fun i => [(2, .ptr 16 []), (12, .p (hw v)), (13, .p (.i .i64 i))])
    (fun i => [(16, .var (.p (dv (dgL v (4 * i) ++ List.replicate (32 - 4 * i) 0))))]) (fun i => i ≤ 8) (fun i => 8 - i) 0 []
    (by omega) ⟨nofun, rfl, ⟨rfl, rfl, rfl, rfl, rfl, rfl, trivial⟩, ⟨rfl, rfl, trivial⟩⟩ ?_
  intro i hi
  conv => whnf
  refine iteC (fun h => ?_) (fun h => ?_)
  · have h := of_decide_eq_true h
    have g1 := hw_get v (i := i) (by omega)
    conv => whnf
    conv => arg 2; repeat (first | rw [g1] | (whnf; arg 2))
    conv => whnf
    refine LoopJ.intro (I := []) (base' := 0) hX hm (by kernel_rfl) (σ := Nat) (fun k => [(2, .ptr 16 []), (12, .p (hw v)), (13, .p (.i .i64 i)), (3, .p (.i .i64 i)), (4, .p (.i .u32 (v.l.getD i 0))), (17, .p (.i .i64 k))])
      (fun k => [(16, .var (.p (dv (dgL v (4 * i + k) ++ List.replicate (32 - (4 * i + k)) 0))))]) (fun k => k ≤ 4) (fun k => 4 - k) 0 []
      (by omega) ⟨nofun, rfl, ⟨rfl, rfl, rfl, rfl, rfl, rfl, rfl, rfl, rfl, rfl, rfl, rfl, trivial⟩, ⟨rfl, rfl, trivial⟩⟩ ?_
    intro k hk
    conv => whnf
    refine iteC (fun h2 => ?_) (fun h2 => ?_)
    · have h2 := of_decide_eq_true h2
      have hL := dgL_length v (4 * i + k)
      have e1 : IntKind.i64.wrap (IntKind.i64.wrap (4 * (i : Int)) + (k : Int)) = ((4 * i + k : Nat) : Int) := by
        rw [wr_i64 (n := 4 * (i : Int)) (by omega) (by omega), wr_i64 (by omega) (by omega)]; omega
      have e2 : IntKind.i64.wrap (24 - IntKind.i64.wrap (8 * (k : Int))) = 24 - 8 * (k : Int) := by
        rw [wr_i64 (n := 8 * (k : Int)) (by omega) (by omega), wr_i64 (by omega) (by omega)]
      have h3 : ¬ IntKind.i64.wrap (24 - IntKind.i64.wrap (8 * (k : Int))) < 0 := by rw [e2]; omega
      have d3 := decide_eq_false h3
      have m1 := mid_get8 (x := 0) (R := List.replicate (31 - (4 * i + k)) 0) hL
      have m2 := mid_nth8 (x := 0) (R := List.replicate (31 - (4 * i + k)) 0) hL
      have m3 := mid_set8 (x := 0) (v := dg v (4 * i + k)) (R := List.replicate (31 - (4 * i + k)) 0) hL
      rw [← e1] at m1 m2 m3
      rw [rep_cons (show 32 - (4 * i + k) = (31 - (4 * i + k)) + 1 by omega)]
      conv => whnf
      iterate 4 (conv => arg 2; repeat (first | rw [d3] | rw [ltF h3] | rw [m1] | rw [m2] | (whnf; arg 2))
                 conv => whnf)
      refine ⟨k + 1, [], by omega, by dsimp only; omega, nofun, rfl, ⟨rfl, rfl, rfl, rfl, rfl, rfl, rfl, rfl, rfl, rfl, incN (by omega), rfl, trivial⟩, ⟨?_, rfl, trivial⟩⟩
      show some (Blk.var (.p (.arr 32 ush ((bv (dgL v (4 * i + k) ++ 0 :: List.replicate (31 - (4 * i + k)) 0)).set (IntKind.i64.wrap (IntKind.i64.wrap (4 * (i : Int)) + (k : Int))).toNat (.i .u8 (byW (v.l.getD i 0) (IntKind.i64.wrap (24 - IntKind.i64.wrap (8 * (k : Int)))))))))) =
        some (Blk.var (.p (.arr 32 ush (bv (dgL v (4 * i + k) ++ [dg v (4 * i + k)] ++ List.replicate (32 - (4 * i + k + 1)) 0)))))
      rw [e2, show byW (v.l.getD i 0) (24 - 8 * (k : Int)) = dg v (4 * i + k) from by unfold dg; rw [show (4 * i + k) / 4 = i by omega, show (4 * i + k) % 4 = k by omega], m3, List.append_assoc, show 32 - (4 * i + k + 1) = 31 - (4 * i + k) by omega]
      rfl
    · have h2 := of_decide_eq_false h2
      obtain rfl : k = 4 := by omega
      conv => whnf
      refine ⟨i + 1, [], by omega, by dsimp only; omega, nofun, rfl, ⟨rfl, rfl, rfl, rfl, incN (by omega), rfl, trivial⟩, ⟨rfl, rfl, trivial⟩⟩
  · have h := of_decide_eq_false h
    obtain rfl : i = 8 := by omega
    show some (AV.p (.arr 32 ush (bv (dgL v 32 ++ [])))) = some (AV.p (dv (dgL v 32)))
    rw [List.append_nil]
end Go.Proofs.YtipmkjfbdflneaaDoor.AM
