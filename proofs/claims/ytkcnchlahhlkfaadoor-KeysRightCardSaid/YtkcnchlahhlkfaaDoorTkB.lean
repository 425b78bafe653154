/- Tokens: the chapter's example; TokenMints, TokenTrue: the walks of the laws. -/
import Derived.Test.YtkcnchlahhlkfaaDoorTkA
namespace Go.Proofs.YtkcnchlahhlkfaaDoor.AM
open Go Go.Proofs
set_option maxRecDepth 100000

theorem same_arr (n : Nat) (a b : List Int) : PV.same (.arr n ush (bv a)) (.arr n ush (bv b)) = decide (a = b) := by
  simp only [PV.same, sameL_bv]
theorem byt_allT {l : List Int} (h : (l.all fun x => decide (0 ≤ x) && decide (x < 256)) = true) : byt l := fun x hx => by
  have := List.all_eq_true.1 h x hx
  simpa using this
def k0 : List Int := 7 :: (List.replicate 30 0 ++ [1])
def t0M : Tk := ⟨1, 2, 3, 258, zd⟩
theorem k0_byt : byt k0 := byt_allT rfl
theorem zd_byt : byt zd := byt_allT rfl
theorem t0M_ok : t0M.ok := ⟨by decide, by decide, by decide, by decide, ⟨rfl, zd_byt⟩⟩
theorem f41_ok : Fn Tryd.prog X.G 41 [] (.tup [.p (dv k0), .p (tkv (mintT k0 t0M))]) := by
  refine Fn.intro (I := []) hX hm 0 Tryd.func41 rfl rfl (by kernel_rfl) rfl ?_
  have c := f33_ok k0 t0M k0_byt rfl t0M_ok
  unfold mintT at *
  generalize tagD k0 (msgT t0M) = d at *
  conv => whnf
  refine ⟨_, c, ?_⟩
  rfl
theorem verE_mk (k : List Int) (t : Tk) (d : List Int) : verE k ⟨t.t, t.u, t.e, t.x, d⟩ = if tagD k (msgT t) = d then 0 else 22 := rfl
theorem valE_mk (k : List Int) (t : Tk) (d : List Int) (y : Int) : valE k ⟨t.t, t.u, t.e, t.x, d⟩ y = if tagD k (msgT t) = d then (if y > t.x then 24 else 0) else 22 := rfl
def d0M : List Int := [13, 103, 12, 186, 90, 255, 171, 147, 213, 180, 31, 87, 62, 95, 50, 22, 49, 103, 96, 89, 62, 59, 55, 101, 98, 69, 23, 41, 89, 253, 235, 31]
def d1M : List Int := [13, 103, 12, 186, 90, 255, 171, 147, 213, 180, 31, 87, 62, 95, 50, 22, 49, 103, 96, 89, 62, 59, 55, 101, 98, 69, 23, 41, 89, 253, 235, 30]
theorem d0M_eq : tagD k0 (msgT t0M) = d0M := by kernel_rfl
def m0M : List Int := [0, 0, 0, 1, 0, 0, 0, 2, 0, 0, 0, 3, 0, 0, 0, 0, 0, 0, 1, 2]
theorem m0M_eq : msgT t0M = m0M := by kernel_rfl
def w0M : Tk := ⟨1, 2, 3, 258, d0M⟩
def w1M : Tk := ⟨1, 2, 3, 258, d1M⟩
theorem w0M_ok : w0M.ok := ⟨by decide, by decide, by decide, by decide, ⟨rfl, byt_allT rfl⟩⟩
theorem w1M_ok : w1M.ok := ⟨by decide, by decide, by decide, by decide, ⟨rfl, byt_allT rfl⟩⟩
theorem mint0 : mintT k0 t0M = w0M := by unfold mintT; rw [d0M_eq]; rfl
theorem ver0 : verE k0 w0M = 0 := by unfold verE; rw [show msgT w0M = msgT t0M from rfl, d0M_eq]; exact if_pos rfl
theorem ver1 : verE k0 w1M = 22 := by unfold verE; rw [show msgT w1M = msgT t0M from rfl, d0M_eq]; exact if_neg (by decide)
theorem val0 : valE k0 w0M 258 = 0 := by unfold valE; rw [show msgT w0M = msgT t0M from rfl, d0M_eq, if_pos (show d0M = w0M.d from rfl)]; rfl
theorem val1 : valE k0 w0M 259 = 24 := by unfold valE; rw [show msgT w0M = msgT t0M from rfl, d0M_eq, if_pos (show d0M = w0M.d from rfl)]; rfl
theorem val2 : valE k0 w1M 259 = 22 := by unfold valE; rw [show msgT w1M = msgT t0M from rfl, d0M_eq]; exact if_neg (by decide)
set_option maxHeartbeats 4000000 in
theorem f40_ok : Fn Tryd.prog X.G 40 [] (.p (.b true)) := by
  refine Fn.intro (I := []) hX hm 0 Tryd.func40 rfl rfl (by kernel_rfl) rfl ?_
  have c0 := f41_ok
  rw [mint0] at c0
  have c1 := f31_ok w0M w0M_ok
  rw [show msgT w0M = msgT t0M from rfl, m0M_eq] at c1
  have c2 := f35_ok k0 w0M k0_byt rfl w0M_ok
  rw [ver0] at c2
  have c3 := f37_ok k0 w0M 258 k0_byt rfl w0M_ok
  rw [val0] at c3
  have c4 := f37_ok k0 w0M 259 k0_byt rfl w0M_ok
  rw [val1] at c4
  have c5 := f35_ok k0 w1M k0_byt rfl w1M_ok
  rw [ver1] at c5
  have c6 := f37_ok k0 w1M 259 k0_byt rfl w1M_ok
  rw [val2] at c6
  conv => whnf
  refine ⟨_, c0, ?_⟩
  conv => whnf
  refine ⟨_, c1, ?_⟩
  conv => whnf
  refine iteT rfl ?_
  conv => whnf
  refine ⟨_, c2, ?_⟩
  conv => whnf
  refine iteT rfl ?_
  conv => whnf
  refine ⟨_, c3, ?_⟩
  conv => whnf
  refine iteT rfl ?_
  conv => whnf
  refine ⟨_, c4, ?_⟩
  conv => whnf
  refine iteT rfl ?_
  conv => whnf
  refine ⟨_, c5, ?_⟩
  conv => whnf
  refine iteT rfl ?_
  conv => whnf
  refine ⟨_, c6, ?_⟩
  conv => whnf
  refine iteT rfl ?_
  rfl
theorem f5_ok (k : List Int) (t : Tk) (y : Int) (hk : byt k) (lk : k.length = 32) (ht : t.ok) : Fn Tryd.prog X.G 5 [.p (dv k), .p (tkv t), .p (.i .u64 y)] (.p (.b true)) := by
  refine Fn.intro (I := []) hX hm 0 Tryd.func5 rfl rfl (by kernel_rfl) rfl ?_
  have c1 := f31_ok t ht
  have c2 := f32_ok t ht
  have c3 := f33_ok k t hk lk ht
  have c4 := f34_ok k t hk lk ht
  have c5 := f35_ok k t hk lk ht
  have c6 := f36_ok k t hk lk ht
  have c7 := f37_ok k t y hk lk ht
  have c8 := f38_ok k t y hk lk ht
  generalize mintT k t = u at *
  generalize verE k t = e at *
  generalize valE k t y = v at *
  generalize msgT t = m at *
  conv => whnf
  refine ⟨_, c1, ?_⟩
  conv => whnf
  refine ⟨_, c2, ?_⟩
  conv => whnf
  refine iteT ((same_arr 20 m m).trans (decide_eq_true rfl)) ?_
  conv => whnf
  refine ⟨_, c3, ?_⟩
  conv => whnf
  refine ⟨_, c4, ?_⟩
  conv => whnf
  refine iteT (sameT u) ?_
  conv => whnf
  refine ⟨_, c5, ?_⟩
  conv => whnf
  refine ⟨_, c6, ?_⟩
  conv => whnf
  refine iteT (beq_self_eq_true _) ?_
  conv => whnf
  refine ⟨_, c7, ?_⟩
  conv => whnf
  refine ⟨_, c8, ?_⟩
  conv => whnf
  refine iteT (beq_self_eq_true _) ?_
  rfl
set_option maxHeartbeats 4000000 in
theorem f6_ok (k : List Int) (t : Tk) (o : List Int) (hk : byt k) (lk : k.length = 32) (ht : t.ok) (ho : byt o) (lo : o.length = 32) :
    Fn Tryd.prog X.G 6 [.p (dv k), .p (tkv t), .p (dv o)] (.p (.b true)) := by
  refine Fn.intro (I := []) hX hm 0 Tryd.func6 rfl rfl (by kernel_rfl) rfl ?_
  have c1 := f33_ok k t hk lk ht
  have c2 := f31_ok t ht
  have hl := msgT_len t
  have c3 := f39_ok k (msgT t) hk (msgT_byt t) (by omega)
  rw [(mac_tag (k := k) (m := msgT t) (by omega) (by omega)).1, (mac_tag (k := k) (m := msgT t) (by omega) (by omega)).2] at c3
  rw [show bvs k = .ro ush (((bv k).drop 0).take 32) from by rw [List.drop_zero, List.take_of_length_le (by rw [List.length_map, lk]; omega)], show bvs (msgT t) = .ro ush (((bv (msgT t)).drop 0).take 20) from by rw [List.drop_zero, List.take_of_length_le (by rw [List.length_map, hl]; omega)]] at c3
  have c4 := f35_ok k (mintT k t) hk lk (mint_ok ht)
  unfold mintT at c4 c1
  rw [verE_mk, if_pos rfl] at c4
  have c5 := f35_ok k t hk lk ht
  unfold verE at c5
  have c6 := f35_ok k ⟨t.t, t.u, t.e, t.x, o⟩ hk lk ⟨ht.t, ht.u, ht.e, ht.x, ⟨lo, ho⟩⟩
  rw [verE_mk] at c6
  have c7 := f40_ok
  generalize tagD k (msgT t) = d at *
  generalize msgT t = m at *
  conv => whnf
  refine ⟨_, c1, ?_⟩
  conv => whnf
  refine ⟨_, c2, ?_⟩
  conv => whnf
  refine ⟨_, c3, ?_⟩
  conv => whnf
  refine iteF rfl ?_
  conv => whnf
  refine iteF (by show (!PV.same (dv d) (dv d)) = false; rw [same_dvT]; rfl) ?_
  conv => whnf
  refine iteF (by simp) ?_
  conv => whnf
  refine iteF (by simp) ?_
  conv => whnf
  refine iteF (by simp) ?_
  conv => whnf
  refine iteF (by simp) ?_
  conv => whnf
  refine ⟨_, c4, ?_⟩
  conv => whnf
  refine iteF rfl ?_
  have hs1 := same_dv t.d d
  have hs2 := same_dv o d
  by_cases h1 : d = t.d
  all_goals
    first | rw [if_pos h1] at c5 | rw [if_neg h1] at c5
    first | rw [decide_eq_true h1.symm] at hs1 | rw [decide_eq_false (Ne.symm h1)] at hs1
    by_cases h2 : d = o
    all_goals
      first | rw [if_pos h2] at c6 | rw [if_neg h2] at c6
      first | rw [decide_eq_true h2.symm] at hs2 | rw [decide_eq_false (Ne.symm h2)] at hs2
      conv => whnf
      refine ⟨_, c5, ?_⟩
      conv => whnf
      first | refine iteT rfl ?_ | refine iteF rfl ?_
      conv => whnf
      first | refine iteT hs1 ?_ | refine iteF hs1 ?_
      conv => whnf
      refine ⟨_, c6, ?_⟩
      conv => whnf
      first | refine iteT rfl ?_ | refine iteF rfl ?_
      conv => whnf
      first | refine iteT hs2 ?_ | refine iteF hs2 ?_
      conv => whnf
      refine ⟨_, c7, ?_⟩
      conv => whnf
      refine iteT rfl ?_
      rfl
end Go.Proofs.YtkcnchlahhlkfaaDoor.AM
