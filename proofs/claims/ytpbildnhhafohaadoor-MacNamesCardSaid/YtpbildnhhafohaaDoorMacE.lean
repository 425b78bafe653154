/- Mac: the chapter's examples; MacSums: the walk of the law. -/
import Derived.Test.YtpbildnhhafohaaDoorMacD
namespace Go.Proofs.YtpbildnhhafohaaDoor.AM
open Go Go.Proofs
set_option maxRecDepth 100000

def tagV (k b : List Int) : V8 := afterV first (mixK k 92 ++ ofB (mixK k 54 ++ b) ++ padL (mixK k 92 ++ ofB (mixK k 54 ++ b)).length)
theorem macD_eq {k b : List Int} (hk : k.length ≤ 200) (hb : b.length ≤ 127936) : macD k b = digestV (tagV k b) ∧ inE k b = 0 :=
  ⟨by unfold macD; rw [if_neg (by omega)]; rfl, by unfold inE; rw [if_neg (by omega)]⟩
theorem f40_ok (k b : List Int) (hk : byt k) (hb : byt b) (lk : k.length ≤ 200) (lb : b.length ≤ 1000) (p q u v z : Int) :
    Fn Tryd.prog X.G 40 [bvs k, bvs b, .p (.arr 4 ush (bv [p, q, u, v])), .p (.i .u8 z)] (.p (.b (isV (tagV k b) p q u v z))) := by
  refine Fn.intro (I := []) hX hm 0 Tryd.func40 rfl rfl (by kernel_rfl) rfl ?_
  have c := f36_ok k b hk hb (by omega)
  rw [(macD_eq lk (by omega)).1, (macD_eq lk (by omega)).2] at c
  generalize tagV k b = w at *
  unfold digestV at c
  unfold isV
  conv => whnf
  refine ⟨_, c, ?_⟩
  conv => whnf
  refine iteT rfl ?_
  conv => whnf
  refine iteC (fun h => ?_) (fun h => ?_)
  · rw [h]
    conv => whnf
    refine iteC (fun h => ?_) (fun h => ?_)
    · rw [h]
      conv => whnf
      refine iteC (fun h => ?_) (fun h => ?_)
      · rw [h]
        conv => whnf
        refine iteC (fun h => ?_) (fun h => ?_)
        · rw [h]
          conv => whnf
          refine iteC (fun h => ?_) (fun h => ?_)
          · rw [h]; rfl
          · rw [h]; rfl
        · rw [h]; rfl
      · rw [h]; rfl
    · rw [h]; rfl
  · rw [h]; rfl
theorem byt_all {l : List Int} (h : (l.all fun x => decide (0 ≤ x) && decide (x < 256)) = true) : byt l := fun x hx => by
  have := List.all_eq_true.1 h x hx
  simpa using this
def jefe : List Int := [74, 101, 102, 101]
def want : List Int := [119, 104, 97, 116, 32, 100, 111, 32, 121, 97, 32, 119, 97, 110, 116, 32, 102, 111, 114, 32, 110, 111, 116, 104, 105, 110, 103, 63]
theorem exJ : isV (tagV jefe want) 91 220 193 70 67 = true := by kernel_rfl
theorem f38_ok : Fn Tryd.prog X.G 38 [] (.p (.b true)) := by
  refine Fn.intro (I := []) hX hm 0 Tryd.func38 rfl rfl (by kernel_rfl) rfl ?_
  have c1 := f39_ok [97, 98, 99] [97, 98, 100] (by decide) (by decide) (byt_all rfl) (byt_all rfl)
  rw [show decide ([97, 98, 99] = ([97, 98, 100] : List Int)) = false from by decide] at c1
  have c2 := f39_ok [97] [] (by decide) (by decide) (byt_all rfl) (byt_all rfl)
  rw [show decide ([97] = ([] : List Int)) = false from by decide] at c2
  have c3 := f40_ok jefe want (byt_all rfl) (byt_all rfl) (by decide) (by decide) 91 220 193 70 67
  rw [exJ] at c3
  conv => whnf
  refine ⟨_, c1, ?_⟩
  conv => whnf
  refine iteF rfl ?_
  conv => whnf
  refine ⟨_, c2.nil2, ?_⟩
  conv => whnf
  refine iteF rfl ?_
  conv => whnf
  refine ⟨_, c3, ?_⟩
  conv => whnf
  repeat (refine iteT rfl ?_
          conv => whnf)
  rfl
set_option maxHeartbeats 4000000 in
theorem f9_ok (k b d : List Int) (hk : byt k) (hb : byt b) (hd : byt d) (ld : d.length = 32) : Fn Tryd.prog X.G 9 [bvs k, bvs b, .p (dv d)] (.p (.b true)) := by
  refine Fn.intro (I := []) hX hm 0 Tryd.func9 rfl rfl (by kernel_rfl) rfl ?_
  conv => whnf
  refine iteC (fun h => ?_) (fun h => ?_)
  · rfl
  have lk := of_decide_eq_false h
  rw [List.length_map] at lk
  conv => whnf
  refine iteC (fun h => ?_) (fun h => ?_)
  · rfl
  have lb := of_decide_eq_false h
  rw [List.length_map] at lb
  have c1 := f30_ok k hk
  have c2 := f31_ok k hk (by omega)
  have c3 := f32_ok k b hk hb (by omega)
  have c4 := f33_ok k b hk hb
  have c5 := f34_ok k d hk hd ld
  have c6 := f35_ok k d hk hd ld
  have c7 := f36_ok k b hk hb (by omega)
  have c8 := f37_ok k b hk hb
  have c9 := f20_ok k k (by omega)
  have c10 := f20_ok b b (by omega)
  rw [decide_eq_true rfl] at c9 c10
  generalize (if k.length > 200 then List.replicate 64 0 else mixK k 54) = p at *
  generalize (if k.length > 200 then List.replicate 64 0 else mixK k 92) = q at *
  generalize (if k.length > 200 then (4 : Int) else 0) = e at *
  generalize inD k b = d1 at *
  generalize inE k b = e1 at *
  generalize ouD k d = d2 at *
  generalize ouE k = e2 at *
  generalize macD k b = d3 at *
  conv => whnf
  iterate 2 (conv => arg 2; repeat (first | rw [capN _ (by simp; omega)] | (whnf; arg 2))
             conv => whnf)
  refine ⟨_, c1, ?_⟩
  conv => whnf
  refine ⟨_, c2, ?_⟩
  conv => whnf
  refine ⟨_, c3, ?_⟩
  conv => whnf
  refine ⟨_, c4, ?_⟩
  conv => whnf
  refine ⟨_, c5, ?_⟩
  conv => whnf
  refine ⟨_, c6, ?_⟩
  conv => whnf
  refine ⟨_, c7, ?_⟩
  conv => whnf
  refine ⟨_, c8, ?_⟩
  conv => whnf
  refine iteT (same_dvl p p |>.trans (decide_eq_true rfl)) ?_
  conv => whnf
  refine iteT (same_dvl q q |>.trans (decide_eq_true rfl)) ?_
  conv => whnf
  refine iteT (beq_self_eq_true _) ?_
  conv => whnf
  refine iteT (same_dvT d1) ?_
  conv => whnf
  refine iteT (beq_self_eq_true _) ?_
  conv => whnf
  refine iteT (same_dvT d2) ?_
  conv => whnf
  refine iteT (beq_self_eq_true _) ?_
  conv => whnf
  refine iteT (same_dvT d3) ?_
  conv => whnf
  refine iteT (beq_self_eq_true _) ?_
  conv => whnf
  refine ⟨_, c9, ?_⟩
  conv => whnf
  refine iteT rfl ?_
  conv => whnf
  refine ⟨_, c10, ?_⟩
  conv => whnf
  refine iteT rfl ?_
  rfl
end Go.Proofs.YtpbildnhhafohaaDoor.AM
