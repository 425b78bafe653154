/- MacMade, MacKeys: the walks of the laws. -/
import Derived.Test.YtpbildnhhafohaaDoorMacE
namespace Go.Proofs.YtpbildnhhafohaaDoor.AM
open Go Go.Proofs
set_option maxRecDepth 100000

theorem pads_106 : ∀ n : Nat, n < 256 → x8 (x8 (n : Int) 54) (x8 (n : Int) 92) = 106 := by decide +kernel
theorem mix_106 {k : List Int} (hk : byt k) {i : Nat} (h : i < 64) : x8 ((mixK k 54).getD i 0) ((mixK k 92).getD i 0) = 106 := by
  have hb := blockK_len k
  have hlt : i < (blockK k).length := by omega
  have hbb : byt (blockK k) := byt_append (keyB_byt hk) (fun x hx => by rw [List.mem_replicate] at hx; rw [hx.2]; decide)
  have hr := hbb _ (List.getElem_mem hlt)
  obtain ⟨n, hn⟩ := Int.eq_ofNat_of_zero_le hr.1
  have := pads_106 n (by omega)
  rw [← hn] at this
  unfold mixK
  simp only [List.getD_eq_getElem?_getD, List.getElem?_map, List.getElem?_eq_getElem hlt, Option.map_some, Option.getD_some]
  exact this
set_option maxHeartbeats 4000000 in
theorem f10_ok (k b : List Int) (hk : byt k) (hb : byt b) : Fn Tryd.prog X.G 10 [bvs k, bvs b] (.p (.b true)) := by
  refine Fn.intro (I := []) hX hm 0 Tryd.func10 rfl rfl (by kernel_rfl) rfl ?_
  conv => whnf
  refine iteC (fun h => ?_) (fun h => ?_)
  · conv => whnf
    refine ⟨_, f38_ok, ?_⟩
    conv => whnf
    refine iteT rfl ?_
    rfl
  have lk := of_decide_eq_false h
  rw [List.length_map] at lk
  conv => whnf
  refine iteC (fun h => ?_) (fun h => ?_)
  · conv => whnf
    refine ⟨_, f38_ok, ?_⟩
    conv => whnf
    refine iteT rfl ?_
    rfl
  have lb := of_decide_eq_false h
  rw [List.length_map] at lb
  have hk2 : ¬ k.length > 200 := by omega
  have c1 := f30_ok k hk
  rw [if_neg hk2, if_neg hk2, if_neg hk2] at c1
  have hp := mixK_len k 54
  have hq := mixK_len k 92
  have hpb := mixK_byt k 54
  have hqb := mixK_byt k 92
  have h106 : ∀ i, i < 64 → x8 ((mixK k 54).getD i 0) ((mixK k 92).getD i 0) = 106 := fun i hi => mix_106 hk hi
  have c2 := f32_ok k b hk hb (by omega)
  rw [show inD k b = ofB (mixK k 54 ++ b) from by unfold inD; rw [if_neg (by omega)], show inE k b = 0 from by unfold inE; rw [if_neg (by omega)]] at c2
  have hdl := ofB_length (mixK k 54 ++ b)
  have hdb := ofB_byt (mixK k 54 ++ b)
  have c3 := f34_ok k (ofB (mixK k 54 ++ b)) hk hdb hdl
  rw [show ouD k (ofB (mixK k 54 ++ b)) = ofB (mixK k 92 ++ ofB (mixK k 54 ++ b)) from by unfold ouD; rw [if_neg hk2], show ouE k = 0 from by unfold ouE; rw [if_neg hk2]] at c3
  have c4 := f36_ok k b hk hb (by omega)
  rw [show macD k b = ofB (mixK k 92 ++ ofB (mixK k 54 ++ b)) from by unfold macD; rw [if_neg (by omega)], show inE k b = 0 from by unfold inE; rw [if_neg (by omega)]] at c4
  have c5 := f14_ok (mixK k 54 ++ b) (byt_append hpb hb)
  rw [show sumD (mixK k 54 ++ b) = ofB (mixK k 54 ++ b) from by unfold sumD; rw [if_neg (by simp; omega)], show sumE (mixK k 54 ++ b) = 0 from by unfold sumE; rw [if_neg (by simp; omega)]] at c5
  rw [show bvs (mixK k 54 ++ b) = .ro ush (List.replicate 0 (PV.i .u8 0) ++ ((bv (mixK k 54)).drop 0).take 64 ++ bv b) from by rw [List.drop_zero, List.take_of_length_le (by rw [List.length_map, hp]; omega)]; simp] at c5
  generalize ofB (mixK k 54 ++ b) = d at *
  have c6 := f14_ok (mixK k 92 ++ d) (byt_append hqb hdb)
  rw [show sumD (mixK k 92 ++ d) = ofB (mixK k 92 ++ d) from by unfold sumD; rw [if_neg (by simp; omega)], show sumE (mixK k 92 ++ d) = 0 from by unfold sumE; rw [if_neg (by simp; omega)]] at c6
  rw [show bvs (mixK k 92 ++ d) = .ro ush (List.replicate 0 (PV.i .u8 0) ++ ((bv (mixK k 92)).drop 0).take 64 ++ ((bv d).drop 0).take 32) from by rw [List.drop_zero, List.take_of_length_le (by rw [List.length_map, hq]; omega), List.drop_zero, List.take_of_length_le (by rw [List.length_map, hdl]; omega)]; simp] at c6
  generalize ofB (mixK k 92 ++ d) = r at *
  generalize mixK k 54 = p at *
  generalize mixK k 92 = q at *
  conv => whnf
  refine ⟨_, c1, ?_⟩
  conv => whnf
  refine ⟨_, c2, ?_⟩
  conv => whnf
  refine ⟨_, c3, ?_⟩
  conv => whnf
  refine ⟨_, c4, ?_⟩
  conv => whnf
  iterate 2 (conv => arg 2; repeat (first | rw [capN _ (by simp; omega)] | (whnf; arg 2))
             conv => whnf)
  refine ⟨_, c5, ?_⟩
  conv => whnf
  iterate 2 (conv => arg 2; repeat (first | rw [capN _ (by simp; omega)] | (whnf; arg 2))
             conv => whnf)
  refine ⟨_, c6, ?_⟩
  conv => whnf
  refine LoopJ.intro (I := []) (base' := 0) hX hm (by kernel_rfl) (σ := Nat) (fun i => [(5, .ptr 40 []), (6, .ptr 48 []), (7, .p (.i .i64 0)), (8, .ptr 64 []), (9, .p (.i .i64 0)), (10, .ptr 80 []), (11, .p (.i .i64 0)), (12, .ptr 96 []), (13, .p (.i .i64 0)), (14, .ptr 112 []), (15, .p (.i .i64 0)), (16, .ptr 128 []), (17, .p (.i .i64 0)), (18, .p (.i .i64 i))])
    (fun i => [(40, .var (.p (dv64 p))), (48, .var (.p (dv64 q))), (64, .var (.p (dv d))), (80, .var (.p (dv r))), (96, .var (.p (dv r))), (112, .var (.p (dv d))), (128, .var (.p (dv r)))]) (fun i => i ≤ 64) (fun i => 64 - i) 0 []
    (by omega) ⟨nofun, rfl, ⟨rfl, rfl, rfl, rfl, rfl, rfl, rfl, rfl, rfl, rfl, rfl, rfl, rfl, rfl, rfl, rfl, rfl, rfl, rfl, rfl, rfl, rfl, rfl, rfl, rfl, rfl, rfl, rfl, trivial⟩, ⟨rfl, rfl, rfl, rfl, rfl, rfl, rfl, rfl, rfl, rfl, rfl, rfl, rfl, rfl, trivial⟩⟩ ?_
  intro i hi
  conv => whnf
  refine iteC (fun h => ?_) (fun h => ?_)
  · have h := of_decide_eq_true h
    have hpl : i < p.length := by omega
    have hql : i < q.length := by omega
    have gp := getM (f := PV.i .u8) hpl
    have np := nthM (f := PV.i .u8) hpl
    have gq := getM (f := PV.i .u8) hql
    have nq := nthM (f := PV.i .u8) hql
    have hx := h106 i (by omega)
    rw [List.getD_eq_getElem?_getD, List.getElem?_eq_getElem hpl, List.getD_eq_getElem?_getD, List.getElem?_eq_getElem hql] at hx
    conv => whnf
    iterate 4 (conv => arg 2; repeat (first | rw [gp] | rw [np] | rw [gq] | rw [nq] | (whnf; arg 2))
               conv => whnf)
    refine iteF (by
      show (x8 p[i] q[i] != 106) = false
      have hx : x8 p[i] q[i] = 106 := hx
      rw [hx]
      rfl) ?_
    conv => whnf
    refine ⟨i + 1, [], by omega, by dsimp only; omega, nofun, rfl, ⟨rfl, rfl, rfl, rfl, rfl, rfl, rfl, rfl, rfl, rfl, rfl, rfl, rfl, rfl, rfl, rfl, rfl, rfl, rfl, rfl, rfl, rfl, rfl, rfl, rfl, rfl, incN (by omega), rfl, trivial⟩, ⟨rfl, rfl, rfl, rfl, rfl, rfl, rfl, rfl, rfl, rfl, rfl, rfl, rfl, rfl, trivial⟩⟩
  · conv => whnf
    iterate 6 (refine iteT rfl ?_
               conv => whnf)
    refine iteT (same_dvT d) ?_
    conv => whnf
    refine iteT (same_dvT r) ?_
    conv => whnf
    refine iteT (same_dvT r) ?_
    conv => whnf
    refine ⟨_, f38_ok, ?_⟩
    conv => whnf
    refine iteT rfl ?_
    rfl
theorem block_of {k : List Int} (h : k.length > 64) : blockK (ofB k) = blockK k := by
  have e1 : keyB k = ofB k := by unfold keyB; rw [if_pos h]
  have e2 : keyB (ofB k) = ofB k := by unfold keyB; rw [if_neg (by rw [ofB_length]; decide)]
  unfold blockK
  rw [e1, e2]
theorem block_zeros {k : List Int} {z : Nat} (h : k.length + z ≤ 64) : blockK (k ++ List.replicate z 0) = blockK k := by
  have e1 : keyB k = k := by unfold keyB; rw [if_neg (by omega)]
  have e2 : keyB (k ++ List.replicate z 0) = k ++ List.replicate z 0 := by unfold keyB; rw [if_neg (by simp; omega)]
  unfold blockK
  rw [e1, e2, List.append_assoc, List.replicate_append_replicate]
  congr 2
  simp
  omega
set_option maxHeartbeats 4000000 in
theorem f11_ok (k : List Int) (z : Int) (b : List Int) (hk : byt k) (hb : byt b) : Fn Tryd.prog X.G 11 [bvs k, .p (.i .i64 z), bvs b] (.p (.b true)) := by
  refine Fn.intro (I := []) hX hm 0 Tryd.func11 rfl rfl (by kernel_rfl) rfl ?_
  conv => whnf
  refine iteC (fun h => ?_) (fun h => ?_)
  · conv => whnf
    refine ⟨_, f38_ok, ?_⟩
    conv => whnf
    refine iteT rfl ?_
    rfl
  have lk := of_decide_eq_false h
  rw [List.length_map] at lk
  clear h
  conv => whnf
  refine iteC (fun h => ?_) (fun h => ?_)
  · conv => whnf
    refine ⟨_, f38_ok, ?_⟩
    conv => whnf
    refine iteT rfl ?_
    rfl
  have lb := of_decide_eq_false h
  rw [List.length_map] at lb
  clear h
  conv => whnf
  refine iteC (fun h => ?_) (fun h => ?_)
  · conv => whnf
    refine ⟨_, f38_ok, ?_⟩
    conv => whnf
    refine iteT rfl ?_
    rfl
  have z0 := of_decide_eq_false h
  clear h
  conv => whnf
  refine iteC (fun h => ?_) (fun h => ?_)
  · conv => whnf
    refine ⟨_, f38_ok, ?_⟩
    conv => whnf
    refine iteT rfl ?_
    rfl
  have z1 := of_decide_eq_false h
  clear h
  obtain ⟨n, rfl⟩ := Int.eq_ofNat_of_zero_le (Int.not_lt.1 z0)
  have c1 := f36_ok k b hk hb (by omega)
  rw [show macD k b = ofB (mixK k 92 ++ ofB (mixK k 54 ++ b)) from by unfold macD; rw [if_neg (by omega)], show inE k b = 0 from by unfold inE; rw [if_neg (by omega)]] at c1
  conv => whnf
  refine ⟨_, c1, ?_⟩
  conv => whnf
  refine iteF rfl ?_
  conv => whnf
  refine iteC (fun h => ?_) (fun h => ?_)
  · have l64 := of_decide_eq_true h
    rw [List.length_map] at l64
    clear h
    have hl := ofB_length k
    have hob := ofB_byt k
    have c2 := f14_ok k hk
    rw [show sumD k = ofB k from by unfold sumD; rw [if_neg (by omega)], show sumE k = 0 from by unfold sumE; rw [if_neg (by omega)]] at c2
    have c3 := f36_ok (ofB k) b hob hb (by omega)
    rw [show macD (ofB k) b = ofB (mixK k 92 ++ ofB (mixK k 54 ++ b)) from by unfold macD mixK; rw [if_neg (by rw [hl]; omega), block_of (by omega)], show inE (ofB k) b = 0 from by unfold inE; rw [if_neg (by rw [hl]; omega)]] at c3
    rw [show bvs (ofB k) = .ro ush (((bv (ofB k)).drop 0).take 32) from by rw [List.drop_zero, List.take_of_length_le (by rw [List.length_map, hl]; omega)]] at c3
    generalize ofB (mixK k 92 ++ ofB (mixK k 54 ++ b)) = r at *
    generalize ofB k = d at *
    conv => whnf
    refine ⟨_, c2, ?_⟩
    conv => whnf
    refine ⟨_, c3, ?_⟩
    conv => whnf
    refine iteT rfl ?_
    conv => whnf
    refine iteT rfl ?_
    conv => whnf
    refine iteT (same_dvT r) ?_
    conv => whnf
    refine ⟨_, f38_ok, ?_⟩
    conv => whnf
    refine iteT rfl ?_
    rfl
  have l64 := of_decide_eq_false h
  rw [List.length_map] at l64
  clear h
  have ez : IntKind.i64.wrap (((bv k).length : Int) + (n : Int)) = ((k.length + n : Nat) : Int) := by rw [List.length_map, wr_i64 (by omega) (by omega)]; omega
  conv => whnf
  refine iteC (fun h => ?_) (fun h => ?_)
  · conv => whnf
    refine ⟨_, f38_ok, ?_⟩
    conv => whnf
    refine iteT rfl ?_
    rfl
  have lz := of_decide_eq_false h
  rw [ez] at lz
  clear h
  have hk2 : ¬ k.length > 200 := by omega
  have hkz : ¬ (k ++ List.replicate n 0).length > 200 := by simp; omega
  have hbz := block_zeros (k := k) (z := n) (by omega)
  have hyz : byt (k ++ List.replicate n 0) := byt_append hk (fun x hx => by rw [List.mem_replicate] at hx; rw [hx.2]; decide)
  have c2 := f30_ok k hk
  rw [if_neg hk2, if_neg hk2, if_neg hk2] at c2
  have c3 := f30_ok (k ++ List.replicate n 0) hyz
  rw [if_neg hkz, if_neg hkz, if_neg hkz, show mixK (k ++ List.replicate n 0) 54 = mixK k 54 from by unfold mixK; rw [hbz], show mixK (k ++ List.replicate n 0) 92 = mixK k 92 from by unfold mixK; rw [hbz]] at c3
  have c4 := f36_ok (k ++ List.replicate n 0) b hyz hb (by omega)
  rw [show macD (k ++ List.replicate n 0) b = ofB (mixK k 92 ++ ofB (mixK k 54 ++ b)) from by unfold macD mixK; rw [if_neg (by omega), hbz], show inE (k ++ List.replicate n 0) b = 0 from by unfold inE; rw [if_neg (by omega)]] at c4
  rw [show bvs (k ++ List.replicate n 0) = .ro ush (List.replicate 0 (PV.i .u8 0) ++ bv k ++ List.replicate (n : Int).toNat (PV.i .u8 0)) from by simp] at c3 c4
  generalize ofB (mixK k 92 ++ ofB (mixK k 54 ++ b)) = r at *
  generalize mixK k 54 = p at *
  generalize mixK k 92 = q at *
  conv => whnf
  refine ⟨_, c2, ?_⟩
  conv => whnf
  iterate 2 (conv => arg 2; repeat (first | rw [capN _ (by simp; omega)] | (whnf; arg 2))
             conv => whnf)
  refine ⟨_, c3, ?_⟩
  conv => whnf
  iterate 2 (conv => arg 2; repeat (first | rw [capN _ (by simp; omega)] | (whnf; arg 2))
             conv => whnf)
  refine ⟨_, c4, ?_⟩
  conv => whnf
  iterate 3 (refine iteT rfl ?_
             conv => whnf)
  refine iteT (same_dvl p p |>.trans (decide_eq_true rfl)) ?_
  conv => whnf
  refine iteT (same_dvl q q |>.trans (decide_eq_true rfl)) ?_
  conv => whnf
  refine iteT (same_dvT r) ?_
  conv => whnf
  refine ⟨_, f38_ok, ?_⟩
  conv => whnf
  refine iteT rfl ?_
  rfl
end Go.Proofs.YtpbildnhhafohaaDoor.AM
