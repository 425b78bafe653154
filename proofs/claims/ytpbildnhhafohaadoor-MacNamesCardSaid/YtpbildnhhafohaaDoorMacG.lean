/- MacLooks, MacNames: the walks of the laws. -/
import Derived.Test.YtpbildnhhafohaaDoorMacE
namespace Go.Proofs.YtpbildnhhafohaaDoor.AM
open Go Go.Proofs
set_option maxRecDepth 100000

theorem x8_ne {x y : Int} (hx : 0 ≤ x ∧ x < 256) (hy : 0 ≤ y ∧ y < 256) (h : y ≠ 0) : x8 x y ≠ x := by
  intro he
  unfold x8 at he
  have e8 : IntKind.u8.bits = 8 := rfl
  rw [e8, wrapU8] at he
  have h1 : BitVec.ofInt 8 x ^^^ BitVec.ofInt 8 y = BitVec.ofInt 8 x := by
    apply BitVec.eq_of_toNat_eq
    have : ((BitVec.ofInt 8 x ^^^ BitVec.ofInt 8 y).toNat : Int) = x := he
    have hx2 : ((BitVec.ofInt 8 x).toNat : Int) = x := by
      simp [BitVec.toNat_ofInt]
      omega
    omega
  have h2 : BitVec.ofInt 8 y = 0#8 := by
    have := congrArg (fun z => BitVec.ofInt 8 x ^^^ z) h1
    simp only [BitVec.xor_self, ← BitVec.xor_assoc, BitVec.zero_xor] at this
    exact this
  exact h (ofInt_inj8 hy ⟨by decide, by decide⟩ (by simpa using h2))
set_option maxHeartbeats 4000000 in
theorem f12_ok (a b : List Int) (t y : Int) (ha : byt a) (hb : byt b) (hy : 0 ≤ y ∧ y < 256) : Fn Tryd.prog X.G 12 [bvs a, bvs b, .p (.i .i64 t), .p (.i .u8 y)] (.p (.b true)) := by
  refine Fn.intro (I := []) hX hm 0 Tryd.func12 rfl rfl (by kernel_rfl) rfl ?_
  conv => whnf
  refine iteC (fun h => ?_) (fun h => ?_)
  · conv => whnf
    refine ⟨_, f38_ok, ?_⟩
    conv => whnf
    refine iteT rfl ?_
    rfl
  have la := of_decide_eq_false h
  rw [List.length_map] at la
  clear h
  conv => whnf
  refine iteC (fun h => ?_) (fun h => ?_)
  · conv => whnf
    refine ⟨_, f38_ok, ?_⟩
    conv => whnf
    refine iteT rfl ?_
    rfl
  have lb := of_decide_eq_false h
  rw [List.length_map] at lb
  clear h
  have c1 := f39_ok a b (by omega) (by omega) ha hb
  have c2 := f39_ok b a (by omega) (by omega) hb ha
  rw [show decide (b = a) = decide (a = b) from by rw [decide_eq_decide]; exact eq_comm, Nat.max_comm] at c2
  have c3 := f39_ok a a (by omega) (by omega) ha ha
  rw [decide_eq_true rfl, Nat.max_self, show bvs a = .ro ush (bv a) from rfl] at c3
  have c4 := f20_ok a b (by omega)
  have hmx := max_len a b
  generalize decide (a = b) = p at *
  cases p
  all_goals
    conv => whnf
    refine ⟨_, c1, ?_⟩
    conv => whnf
    first | refine iteT rfl ?_ | refine iteF rfl ?_
    conv => whnf
    refine ⟨_, c2, ?_⟩
    conv => whnf
    first | refine iteT rfl ?_ | refine iteF rfl ?_
    conv => whnf
    conv => arg 2; repeat (first | rw [capN _ (by simp; omega)] | (whnf; arg 2))
    conv => whnf
    refine ⟨_, c3, ?_⟩
    conv => whnf
    refine iteT rfl ?_
    conv => whnf
    refine iteF (by
      show (((max a.length b.length : Nat) : Int) != (if ((bv b).length : Int) > (bv a).length then ((bv b).length : Int) else (bv a).length)) = false
      rw [hmx]
      simp) ?_
    conv => whnf
    refine iteF (by simp) ?_
    conv => whnf
    refine iteF rfl ?_
    conv => whnf
    refine ⟨_, c4, ?_⟩
    conv => whnf
    first | refine iteT rfl ?_ | refine iteF rfl ?_
    conv => whnf
    refine iteF rfl ?_
    conv => whnf
    refine iteF (by simp) ?_
    conv => whnf
    refine iteC (fun h => ?_) (fun h => ?_)
    · conv => whnf
      refine ⟨_, f38_ok, ?_⟩
      conv => whnf
      refine iteT rfl ?_
      rfl
    have t0 := of_decide_eq_false h
    clear h
    conv => whnf
    refine iteC (fun h => ?_) (fun h => ?_)
    · conv => whnf
      refine ⟨_, f38_ok, ?_⟩
      conv => whnf
      refine iteT rfl ?_
      rfl
    have t1 := of_decide_eq_false h
    rw [List.length_map] at t1
    clear h
    conv => whnf
    refine iteC (fun h => ?_) (fun h => ?_)
    · conv => whnf
      refine ⟨_, f38_ok, ?_⟩
      conv => whnf
      refine iteT rfl ?_
      rfl
    have y0 : y ≠ 0 := by simpa using h
    clear h
    obtain ⟨i, rfl⟩ := Int.eq_ofNat_of_zero_le (Int.not_lt.1 t0)
    have hi : i < a.length := by omega
    have hr := ha _ (List.getElem_mem hi)
    have hne := x8_ne hr hy y0
    have hset : a ≠ a.set i (x8 a[i] y) := by
      intro he
      have := congrArg (fun l => l[i]?) he
      simp only [List.getElem?_set_self hi, List.getElem?_eq_getElem hi, Option.some.injEq] at this
      exact hne this.symm
    have hsb : byt (a.set i (x8 a[i] y)) := fun z hz => by
      rcases List.mem_or_eq_of_mem_set hz with h | rfl
      · exact ha z h
      · exact x8_range _ _
    have c5 := f39_ok a (a.set i (x8 a[i] y)) (by omega) (by rw [List.length_set]; omega) ha hsb
    rw [decide_eq_false hset, List.length_set, Nat.max_self] at c5
    have ga : getI (List.replicate 0 (PV.i .u8 0) ++ bv a) (i : Int) = some (PV.i .u8 a[i]) := getM (f := PV.i .u8) hi
    have gn : (List.replicate 0 (PV.i .u8 0) ++ bv a)[(i : Int).toNat]? = some (PV.i .u8 a[i]) := nthM (f := PV.i .u8) hi
    have c5' : Fn Tryd.prog X.G 39 [bvs a, .ro ush ((List.replicate 0 (PV.i .u8 0) ++ bv a).set (i : Int).toNat (.i .u8 (x8 a[i] y)))] (.tup [.p (.b false), .p (.i .i64 a.length)]) := by
      have e : bv (a.set i (x8 a[i] y)) = (List.replicate 0 (PV.i .u8 0) ++ bv a).set (i : Int).toNat (.i .u8 (x8 a[i] y)) := by
        rw [Int.toNat_natCast, List.replicate_zero, List.nil_append]
        simp only [bv, List.map_set]
      rw [← e]
      exact c5
    conv => whnf
    conv => arg 2; repeat (first | rw [capN _ (by simp; omega)] | (whnf; arg 2))
    conv => whnf
    iterate 4 (conv => arg 2; repeat (first | rw [ga] | rw [gn] | (whnf; arg 2))
               conv => whnf)
    refine ⟨_, c5', ?_⟩
    conv => whnf
    refine iteF rfl ?_
    conv => whnf
    refine iteT (by rw [List.length_map]; simp) ?_
    conv => whnf
    refine ⟨_, f38_ok, ?_⟩
    conv => whnf
    refine iteT rfl ?_
    rfl
theorem f41_ok (y : Int) (n : Nat) (hn : n ≤ 1000) : Fn Tryd.prog X.G 41 [.p (.i .u8 y), .p (.i .i64 n)] (bvs (List.replicate n y)) := by
  refine Fn.intro (I := []) hX hm 0 Tryd.func41 rfl rfl (by kernel_rfl) rfl ?_
  conv => whnf
  refine LoopJ.nil 5 1000 ush rfl rfl ?_
  refine LoopJ.intro (I := []) (base' := 0) hX hm (by kernel_rfl) (σ := Nat) (fun i => [(0, .p (.i .u8 y)), (1, .p (.i .i64 ((n - i : Nat) : Int))), (5, .own 1000)]) (fun i => [(1000, .els true ush (bv (List.replicate i y)))]) (fun i => i ≤ n) (fun i => n - i) 0 []
    (Nat.zero_le _) ⟨nofun, rfl, ⟨rfl, rfl, rfl, rfl, rfl, rfl, trivial⟩, ⟨rfl, rfl, trivial⟩⟩ ?_
  intro i hi
  conv => whnf
  refine iteC (fun h => ?_) (fun h => ?_)
  · have h := of_decide_eq_true h
    conv => whnf
    conv => arg 2; repeat (first | rw [capN _ (by simp; omega)] | (whnf; arg 2))
    conv => whnf
    refine ⟨i + 1, [(1000, 104)], by omega, by dsimp only; omega, nofun, rfl, ⟨rfl, rfl, ?_, rfl, rfl, rfl, trivial⟩, ⟨?_, rfl, trivial⟩⟩
    · show AV.p (.i .i64 (IntKind.i64.wrap (((n - i : Nat) : Int) - 1))) = AV.p (.i .i64 ((n - (i + 1) : Nat) : Int))
      rw [wr_i64 (by omega) (by omega), show (((n - i : Nat) : Int) - 1) = ((n - (i + 1) : Nat) : Int) by omega]
    · show some (Blk.els true ush (bv (List.replicate i y) ++ [PV.i .u8 y])) = some (Blk.els true ush (bv (List.replicate (i + 1) y)))
      rw [List.replicate_succ', ← bv_snoc]
  · have h := of_decide_eq_false h
    obtain rfl : i = n := by omega
    rfl
def hiB : List Int := [72, 105, 32, 84, 104, 101, 114, 101]
def bigB : List Int := [84, 101, 115, 116, 32, 85, 115, 105, 110, 103, 32, 76, 97, 114, 103, 101, 114, 32, 84, 104, 97, 110, 32, 66, 108, 111, 99, 107, 45, 83, 105, 122, 101, 32, 75, 101, 121, 32, 45, 32, 72, 97, 115, 104, 32, 75, 101, 121, 32, 70, 105, 114, 115, 116]
theorem exH : isV (tagV (List.replicate 20 11) hiB) 176 52 76 97 247 = true := by kernel_rfl
theorem exL : isV (tagV (List.replicate 131 170) bigB) 96 228 49 89 84 = true := by kernel_rfl
theorem repB {n : Nat} {y : Int} (h : 0 ≤ y ∧ y < 256) : byt (List.replicate n y) := fun x hx => by
  rw [List.mem_replicate] at hx
  rw [hx.2]
  exact h
theorem zb (n : Int) : bvs (List.replicate n.toNat 0) = .ro ush (List.replicate n.toNat (PV.i .u8 0)) := by simp
theorem nb0 : byt [] := fun x hx => by simp at hx
theorem pads_many (n : Int) (h : n > 200) : Fn Tryd.prog X.G 30 [.ro ush (List.replicate n.toNat (PV.i .u8 0))] (.tup [.p (dv64 (List.replicate 64 0)), .p (dv64 (List.replicate 64 0)), .p (.i .i64 4)]) := by
  have c := f30_ok (List.replicate n.toNat 0) (repB (by decide))
  have hl : (List.replicate n.toNat (0 : Int)).length > 200 := by simp; omega
  rw [zb, if_pos hl, if_pos hl, if_pos hl] at c
  exact c
theorem sum_bad1 (n : Int) (h : n > 200) : Fn Tryd.prog X.G 36 [.ro ush (List.replicate n.toNat (PV.i .u8 0)), bvs []] (.tup [.p (dv zd), .p (.i .i64 4)]) := by
  have c := f36_ok (List.replicate n.toNat 0) [] (repB (by decide)) nb0 (by simp)
  have hl : (List.replicate n.toNat (0 : Int)).length > 200 := by simp; omega
  rw [zb, show macD (List.replicate n.toNat 0) [] = zd from by unfold macD; rw [if_pos (.inl hl)], show inE (List.replicate n.toNat 0) [] = 4 from by unfold inE; rw [if_pos (.inl hl)]] at c
  exact c
theorem inner_bad1 (n : Int) (h : n > 200) : Fn Tryd.prog X.G 32 [.ro ush (List.replicate n.toNat (PV.i .u8 0)), bvs []] (.tup [.p (dv zd), .p (.i .i64 4)]) := by
  have c := f32_ok (List.replicate n.toNat 0) [] (repB (by decide)) nb0 (by simp)
  have hl : (List.replicate n.toNat (0 : Int)).length > 200 := by simp; omega
  rw [zb, show inD (List.replicate n.toNat 0) [] = zd from by unfold inD; rw [if_pos (.inl hl)], show inE (List.replicate n.toNat 0) [] = 4 from by unfold inE; rw [if_pos (.inl hl)]] at c
  exact c
theorem sum_bad2 (n : Int) (h : n > 127936) (h2 : n < 1000000) : Fn Tryd.prog X.G 36 [bvs [], .ro ush (List.replicate n.toNat (PV.i .u8 0))] (.tup [.p (dv zd), .p (.i .i64 4)]) := by
  have c := f36_ok [] (List.replicate n.toNat 0) nb0 (repB (by decide)) (by simp; omega)
  have hl : (List.replicate n.toNat (0 : Int)).length > 127936 := by simp; omega
  rw [zb, show macD [] (List.replicate n.toNat 0) = zd from by unfold macD; rw [if_pos (.inr hl)], show inE [] (List.replicate n.toNat 0) = 4 from by unfold inE; rw [if_pos (.inr hl)]] at c
  exact c
theorem inner_bad2 (n : Int) (h : n > 127936) (h2 : n < 1000000) : Fn Tryd.prog X.G 32 [bvs [], .ro ush (List.replicate n.toNat (PV.i .u8 0))] (.tup [.p (dv zd), .p (.i .i64 4)]) := by
  have c := f32_ok [] (List.replicate n.toNat 0) nb0 (repB (by decide)) (by simp; omega)
  have hl : (List.replicate n.toNat (0 : Int)).length > 127936 := by simp; omega
  rw [zb, show inD [] (List.replicate n.toNat 0) = zd from by unfold inD; rw [if_pos (.inr hl)], show inE [] (List.replicate n.toNat 0) = 4 from by unfold inE; rw [if_pos (.inr hl)]] at c
  exact c
theorem sum_fine (n : Int) (h : n ≤ 127936) : ∃ d : List Int, Fn Tryd.prog X.G 36 [bvs [], .ro ush (List.replicate n.toNat (PV.i .u8 0))] (.tup [.p (dv d), .p (.i .i64 0)]) := by
  have c := f36_ok [] (List.replicate n.toNat 0) nb0 (repB (by decide)) (by simp; omega)
  have hl : ¬ (([] : List Int).length > 200 ∨ (List.replicate n.toNat (0 : Int)).length > 127936) := by simp; omega
  rw [zb, show inE [] (List.replicate n.toNat 0) = 0 from by unfold inE; rw [if_neg hl]] at c
  exact ⟨_, c⟩
theorem outer_bad (n : Int) (h : n > 200) : Fn Tryd.prog X.G 34 [.ro ush (List.replicate n.toNat (PV.i .u8 0)), .p (dv zd)] (.tup [.p (dv zd), .p (.i .i64 4)]) := by
  have c := f34_ok (List.replicate n.toNat 0) zd (repB (by decide)) (repB (by decide)) rfl
  have hl : (List.replicate n.toNat (0 : Int)).length > 200 := by simp; omega
  rw [zb, show ouD (List.replicate n.toNat 0) zd = zd from by unfold ouD; rw [if_pos hl], show ouE (List.replicate n.toNat 0) = 4 from by unfold ouE; rw [if_pos hl]] at c
  exact c
theorem outer_fine (n : Int) (h : n ≤ 200) : ∃ d : List Int, Fn Tryd.prog X.G 34 [.ro ush (List.replicate n.toNat (PV.i .u8 0)), .p (dv zd)] (.tup [.p (dv d), .p (.i .i64 0)]) := by
  have c := f34_ok (List.replicate n.toNat 0) zd (repB (by decide)) (repB (by decide)) rfl
  have hl : ¬ (List.replicate n.toNat (0 : Int)).length > 200 := by simp; omega
  rw [zb, show ouE (List.replicate n.toNat 0) = 0 from by unfold ouE; rw [if_neg hl]] at c
  exact ⟨_, c⟩
def oneD : List Int := [0, 0, 0, 0, 0, 0, 0, 0, 0, 0, 0, 0, 0, 0, 0, 0, 0, 0, 0, 0, 0, 0, 0, 0, 0, 0, 0, 0, 0, 0, 0, 1]
set_option maxHeartbeats 4000000 in
theorem f13_ok : Fn Tryd.prog X.G 13 [] (.p (.b true)) := by
  refine Fn.intro (I := []) hX hm 0 Tryd.func13 rfl rfl (by kernel_rfl) rfl ?_
  have r1 := f41_ok 11 20 (by decide)
  have r2 := f41_ok 170 131 (by decide)
  have c1 := f40_ok (List.replicate 20 11) hiB (repB (by decide)) (byt_all rfl) (by decide) (by decide) 176 52 76 97 247
  rw [exH] at c1
  have c2 := f40_ok (List.replicate 131 170) bigB (repB (by decide)) (byt_all rfl) (by decide) (by decide) 96 228 49 89 84
  rw [exL] at c2
  have c3 := f30_ok [] nb0
  rw [if_neg (by decide), if_neg (by decide), if_neg (by decide), show mixK [] 54 = List.replicate 64 54 from by kernel_rfl, show mixK [] 92 = List.replicate 64 92 from by kernel_rfl] at c3
  obtain ⟨d1, c4⟩ := sum_fine 127936 (by decide)
  obtain ⟨d2, c5⟩ := outer_fine 200 (by decide)
  have c6 := f39_ok [] [] (by decide) (by decide) nb0 nb0
  rw [show decide (([] : List Int) = []) = true from rfl] at c6
  have c7 := f39_ok [0, 0] [0] (by decide) (by decide) (byt_all rfl) (byt_all rfl)
  rw [show decide (([0, 0] : List Int) = [0]) = false from by decide] at c7
  have c8 := f42_ok oneD zd rfl rfl (byt_all rfl) (byt_all rfl)
  rw [show decide (oneD = zd) = false from by decide] at c8
  have c9 := f42_ok oneD oneD rfl rfl (byt_all rfl) (byt_all rfl)
  rw [decide_eq_true rfl] at c9
  conv => whnf
  refine ⟨_, r1, ?_⟩
  conv => whnf
  refine ⟨_, c1, ?_⟩
  conv => whnf
  refine iteT rfl ?_
  conv => whnf
  refine ⟨_, r2, ?_⟩
  conv => whnf
  refine ⟨_, c2, ?_⟩
  conv => whnf
  refine iteT rfl ?_
  conv => whnf
  refine ⟨_, pads_many _ (by decide), ?_⟩
  conv => whnf
  refine ⟨_, c3.nil1, ?_⟩
  conv => whnf
  refine ⟨_, (sum_bad1 _ (by decide)).nil2, ?_⟩
  conv => whnf
  refine ⟨_, (sum_bad2 _ (by decide) (by decide)).nil1, ?_⟩
  conv => whnf
  refine ⟨_, c4.nil1, ?_⟩
  conv => whnf
  refine ⟨_, (inner_bad1 _ (by decide)).nil2, ?_⟩
  conv => whnf
  refine ⟨_, (inner_bad2 _ (by decide) (by decide)).nil1, ?_⟩
  conv => whnf
  refine ⟨_, outer_bad _ (by decide), ?_⟩
  conv => whnf
  refine ⟨_, c5, ?_⟩
  conv => whnf
  refine ⟨_, c6.nil1.nil2, ?_⟩
  conv => whnf
  refine iteT rfl ?_
  conv => whnf
  refine ⟨_, c7, ?_⟩
  conv => whnf
  refine iteF rfl ?_
  conv => whnf
  repeat (refine iteT rfl ?_
          conv => whnf)
  refine ⟨_, c8, ?_⟩
  conv => whnf
  refine iteF rfl ?_
  conv => whnf
  refine ⟨_, c9, ?_⟩
  conv => whnf
  refine iteT rfl ?_
  conv => whnf
  refine ⟨_, f38_ok, ?_⟩
  conv => whnf
  refine iteT rfl ?_
  rfl
end Go.Proofs.YtpbildnhhafohaaDoor.AM
