/- FrameNames: the walk of the law. -/
import Derived.Test.YtjgffjofgeppoaaFrameK
namespace Go.Proofs.Ytjgffjofgeppoaa.AM
open Go Go.Proofs
set_option maxRecDepth 100000
def lA : Lm := ⟨1, 0, 1⟩
def lB : Lm := ⟨1000000000, 1000000000, 1000000000⟩
def lC : Lm := ⟨5, 2, 3⟩
def lD : Lm := ⟨5, 2, 0⟩
abbrev lims : PV := .arr 3 lsh [lmv lA, lmv lB, lmv lC]
theorem f67_ok : Fn Try.prog X.G 67 [] (.p lims) := by
  refine Fn.intro (I := []) hX hm 0 Try.func67 rfl rfl (by kernel_rfl) rfl ?_
  conv => whnf
  rfl
def dA : List Int := 1 :: List.replicate 31 0
def dB : List Int := List.replicate 31 0 ++ [255]
def finesC : List Cm := [⟨1, 15, 0, lA, lB, lC, 1, 8, 18446744073709551615, dA⟩, ⟨2, 0, 0, l00, l00, l00, 0, 0, 0, dB⟩, ⟨3, 0, 0, lA, lB, lC, 0, 0, 0, zd⟩, ⟨4, 0, 0, l00, l00, l00, 0, 0, 1, zd⟩,
  ⟨5, 0, 4294967295, l00, l00, l00, 0, 0, 0, zd⟩, ⟨5, 0, 0, l00, l00, l00, 0, 0, 0, zd⟩]
def badsC : List Cm := [c00, ⟨6, 0, 0, l00, l00, l00, 0, 0, 0, zd⟩, ⟨255, 0, 0, l00, l00, l00, 0, 0, 0, zd⟩, ⟨2, 16, 0, l00, l00, l00, 0, 0, 0, zd⟩, ⟨1, 0, 0, lA, lB, lC, 0, 0, 0, zd⟩,
  ⟨1, 0, 0, lA, lB, lC, 9, 1, 0, zd⟩, ⟨1, 0, 0, lA, lB, lC, 1, 9, 0, zd⟩, ⟨1, 0, 1, lA, lB, lC, 1, 1, 0, zd⟩, ⟨1, 0, 0, lA, lB, lD, 1, 1, 0, zd⟩, ⟨1, 0, 0, l00, l00, l00, 1, 1, 0, zd⟩,
  ⟨2, 0, 1, l00, l00, l00, 0, 0, 0, zd⟩, ⟨2, 0, 0, l00, l00, l00, 1, 0, 0, zd⟩, ⟨2, 0, 0, lA, lB, lC, 0, 0, 0, zd⟩, ⟨3, 0, 0, lA, lB, lD, 0, 0, 0, zd⟩, ⟨3, 0, 0, lA, lB, lC, 0, 1, 0, zd⟩,
  ⟨4, 0, 1, l00, l00, l00, 0, 0, 0, zd⟩, ⟨4, 0, 0, lA, lB, lC, 0, 0, 0, zd⟩, ⟨5, 0, 0, l00, l00, l00, 0, 1, 0, zd⟩, ⟨5, 0, 0, lA, lB, lC, 0, 0, 0, zd⟩]
instance (l : Lm) : Decidable l.ok := decidable_of_iff ((-9223372036854775808 ≤ l.b ∧ l.b < 9223372036854775808) ∧ (-9223372036854775808 ≤ l.r ∧ l.r < 9223372036854775808) ∧ (-9223372036854775808 ≤ l.p ∧ l.p < 9223372036854775808))
  ⟨fun h => ⟨h.1, h.2.1, h.2.2⟩, fun h => ⟨h.b, h.r, h.p⟩⟩
instance (l : List Int) : Decidable (byt l) := by unfold byt; infer_instance
instance (c : Cm) : Decidable c.ok := decidable_of_iff ((0 ≤ c.op ∧ c.op < 256) ∧ (0 ≤ c.t ∧ c.t < 4294967296) ∧ (0 ≤ c.u ∧ c.u < 4294967296) ∧ c.l0.ok ∧ c.l1.ok ∧ c.l2.ok ∧ (0 ≤ c.us ∧ c.us < 256) ∧ (0 ≤ c.en ∧ c.en < 256) ∧
    (0 ≤ c.x ∧ c.x < 18446744073709551616) ∧ (c.d.length = 32 ∧ byt c.d))
  ⟨fun ⟨a, b, c, d, e, f, g, h, i, j⟩ => ⟨a, b, c, d, e, f, g, h, i, j⟩, fun h => ⟨h.op, h.t, h.u, h.l0, h.l1, h.l2, h.us, h.en, h.x, h.d⟩⟩
theorem finesC_ok : ∀ c ∈ finesC, c.ok ∧ okC c := by decide
theorem badsC_ok : ∀ c ∈ badsC, c.ok ∧ ¬ okC c := by decide
set_option maxHeartbeats 8000000 in
theorem f21_ok : Fn Try.prog X.G 21 [] (.p (.b true)) := by
  refine Fn.intro (I := []) hX hm 0 Try.func21 rfl rfl (by kernel_rfl) rfl ?_
  conv => whnf
  refine ⟨_, f67_ok, ?_⟩
  conv => whnf
  refine ⟨_, f67_ok, ?_⟩
  conv => whnf
  refine LoopJ.intro (I := []) (base' := 0) hX hm (by kernel_rfl) (σ := Nat) (fun i => [(1, .own 376), (2, .p (.i .i64 i))]) (fun _ => [(376, .els true csh (finesC.map cmv))]) (fun i => i ≤ 6) (fun i => 6 - i) 0 []
    (Nat.zero_le _) ⟨nofun, rfl, ⟨rfl, rfl, rfl, rfl, trivial⟩, ⟨rfl, rfl, trivial⟩⟩ ?_
  intro i hi
  conv => whnf
  refine iteC (fun h => ?_) (fun h => ?_)
  · have h := of_decide_eq_true h
    have hlen : finesC.length = 6 := rfl
    have hlt : i < finesC.length := by
      rw [List.length_map, hlen] at h
      omega
    obtain ⟨ho, hk⟩ := finesC_ok _ (List.getElem_mem hlt)
    have hg := getM (f := cmv) hlt
    have hn := nthM (f := cmv) hlt
    generalize finesC[i] = c at *
    have c1 := f66_ok c
    have ko : okF (cmF c) := (okF_C c).2 hk
    have kf := cmF_ok ho
    have c2 := f52_ok (cmF c) kf
    rw [show writeF (cmF c) = bytesC c from by unfold writeF; rw [if_pos ko]; rfl, ← cf_0 ko] at c2
    have c3 := f62_ok (bytesC c) (bytesF_byt kf ko)
    rw [show parseF (bytesC c) = (cmF c, 0) from parse_bytesF kf ko] at c3
    dsimp only at c3
    have c4 := f56_ok c ho
    rw [show befC c = msgC c from by unfold befC; rw [if_pos hk], show befE c = 0 from by unfold befE; rw [if_pos hk]] at c4
    have c5 := f54_ok (cmF c) kf
    rw [show tenF (cmF c) = c.t from by unfold tenF; rw [if_pos ko]; rfl, ← cf_0 ko] at c5
    have c6 := f58_ok (cmF c) kf
    rw [← cf_0 ko] at c6
    have hlB : (((bv (bytesC c)).length : Int) != 88) = false := by rw [List.length_map, bytesC_len ho]; rfl
    have hlm : (((bv (msgC c)).length : Int) != 56) = false := by rw [List.length_map, msgC_len]; rfl
    have same : (!PV.same (frv (cmF c)) (frv (cmF c))) = false := by rw [same_frT]; rfl
    have ht : (c.t != c.t) = false := by simp
    generalize bytesC c = B at *
    generalize msgC c = m at *
    conv => whnf
    iterate 7
      repeat (first
        | (refine iteF rfl ?_; conv => whnf)
        | (refine iteF hlB ?_; conv => whnf)
        | (refine iteF hlm ?_; conv => whnf)
        | (refine iteF same ?_; conv => whnf)
        | (refine iteF ht ?_; conv => whnf)
        | (refine ⟨_, c1, ?_⟩; conv => whnf)
        | (refine ⟨_, c2, ?_⟩; conv => whnf)
        | (refine ⟨_, c3, ?_⟩; conv => whnf)
        | (refine ⟨_, c4, ?_⟩; conv => whnf)
        | (refine ⟨_, c5, ?_⟩; conv => whnf)
        | (refine ⟨_, c6, ?_⟩; conv => whnf))
      iterate 2
        try (conv => arg 2; repeat (first | rw [hg] | rw [hn] | (whnf; arg 2)))
        try (conv => whnf)
    exact ⟨i + 1, [], by omega, by dsimp only; omega, nofun, rfl, ⟨rfl, rfl, incN (by omega), rfl, trivial⟩, ⟨rfl, rfl, trivial⟩⟩
  clear h hi
  conv => whnf
  repeat (refine ⟨_, f67_ok, ?_⟩; conv => whnf)
  refine LoopJ.intro (I := []) (base' := 0) hX hm (by kernel_rfl) (σ := Nat) (fun i => [(1, .own 376), (12, .own 1312), (13, .p (.i .i64 i))]) (fun _ => [(376, .els true csh (finesC.map cmv)), (1312, .els true csh (badsC.map cmv))]) (fun i => i ≤ 19) (fun i => 19 - i) 0 []
    (Nat.zero_le _) ⟨nofun, rfl, ⟨rfl, rfl, rfl, rfl, rfl, rfl, trivial⟩, ⟨rfl, rfl, rfl, rfl, trivial⟩⟩ ?_
  intro i hi
  conv => whnf
  refine iteC (fun h => ?_) (fun h => ?_)
  · have h := of_decide_eq_true h
    have hlen : badsC.length = 19 := rfl
    have hlt : i < badsC.length := by
      rw [List.length_map, hlen] at h
      omega
    obtain ⟨ho, hk⟩ := badsC_ok _ (List.getElem_mem hlt)
    have hg := getM (f := cmv) hlt
    have hn := nthM (f := cmv) hlt
    generalize badsC[i] = c at *
    have c1 := f66_ok c
    have ko : ¬ okF (cmF c) := fun h => hk ((okF_C c).1 h)
    have kf := cmF_ok ho
    have c2 := f52_ok (cmF c) kf
    rw [show writeF (cmF c) = [] from by unfold writeF; rw [if_neg ko], ← cf_8 ko] at c2
    have c4 := f56_ok c ho
    rw [show befC c = [] from by unfold befC; rw [if_neg hk], show befE c = 8 from by unfold befE; rw [if_neg hk]] at c4
    have c5 := f54_ok (cmF c) kf
    rw [show tenF (cmF c) = 0 from by unfold tenF; rw [if_neg ko], ← cf_8 ko] at c5
    have c6 := f58_ok (cmF c) kf
    rw [← cf_8 ko] at c6
    conv => whnf
    iterate 5
      repeat (first
        | (refine iteF rfl ?_; conv => whnf)
        | (refine ⟨_, c1, ?_⟩; conv => whnf)
        | (refine ⟨_, c2, ?_⟩; conv => whnf)
        | (refine ⟨_, c4, ?_⟩; conv => whnf)
        | (refine ⟨_, c5, ?_⟩; conv => whnf)
        | (refine ⟨_, c6, ?_⟩; conv => whnf))
      iterate 2
        try (conv => arg 2; repeat (first | rw [hg] | rw [hn] | (whnf; arg 2)))
        try (conv => whnf)
    exact ⟨i + 1, [], by omega, by dsimp only; omega, nofun, rfl, ⟨rfl, rfl, rfl, rfl, incN (by omega), rfl, trivial⟩, ⟨rfl, rfl, rfl, rfl, trivial⟩⟩
  clear h hi
  have c1 := f68_ok 1
  have c2 := f66_ok ⟨2, 0, 0, l00, l00, l00, 0, 0, 0, dB⟩
  have c3 := f58_ok ⟨1, ⟨1, 0, 0, 0, zd⟩, 0, 0, ⟨2, 0, 0, l00, l00, l00, 0, 0, 0, zd⟩⟩ ⟨by decide, ⟨by decide, by decide, by decide, by decide, by decide, byt_of rfl⟩, by decide, by decide, (by decide : (⟨2, 0, 0, l00, l00, l00, 0, 0, 0, zd⟩ : Cm).ok)⟩
  rw [show chkFr ⟨1, ⟨1, 0, 0, 0, zd⟩, 0, 0, ⟨2, 0, 0, l00, l00, l00, 0, 0, 0, zd⟩⟩ = 8 from by decide] at c3
  have c4 := f58_ok ⟨2, t0T, 0, 1, ⟨2, 0, 0, l00, l00, l00, 0, 0, 0, dB⟩⟩ ⟨by decide, t0T_ok, by decide, by decide, (by decide : (⟨2, 0, 0, l00, l00, l00, 0, 0, 0, dB⟩ : Cm).ok)⟩
  rw [show chkFr ⟨2, t0T, 0, 1, ⟨2, 0, 0, l00, l00, l00, 0, 0, 0, dB⟩⟩ = 8 from by decide] at c4
  have c5 := f58_ok f00 f00_ok
  rw [show chkFr f00 = 8 from by decide] at c5
  have c6 := f58_ok ⟨3, t0T, 0, 0, c00⟩ ⟨by decide, t0T_ok, by decide, by decide, c00_ok⟩
  rw [show chkFr ⟨3, t0T, 0, 0, c00⟩ = 8 from by decide] at c6
  have c7 := f68_ok 15
  have c8 := f52_ok (rqF 15) (rqF_ok (by decide))
  rw [show writeF (rqF 15) = [1, 0, 0, 0, 15] ++ List.replicate 54 0 from by decide, show chkFr (rqF 15) = 0 from by decide] at c8
  have c9 := f54_ok (rqF 15) (rqF_ok (by decide))
  rw [show tenF (rqF 15) = 15 from by decide, show chkFr (rqF 15) = 0 from by decide] at c9
  have p1 := f62_ok ([2, 0, 0, 0, 15] ++ List.replicate 54 0) (byt_of rfl)
  rw [show parseF ([2, 0, 0, 0, 15] ++ List.replicate 54 0) = (f00, 12) from by decide] at p1
  have p2 := f62_ok ([2, 0, 0, 0, 15] ++ List.replicate 53 0) (byt_of rfl)
  rw [show parseF ([2, 0, 0, 0, 15] ++ List.replicate 53 0) = (f00, 12) from by decide] at p2
  have p3 := Fn.nil1 (t := .one) (f62_ok [] (byt_of rfl))
  rw [show parseF [] = (f00, 12) from by decide] at p3
  have p4 := f62_ok (List.replicate 88 0) (byt_of rfl)
  rw [show parseF (List.replicate 88 0) = (f00, 12) from by decide] at p4
  have p5 := f62_ok (List.replicate 200 0) (byt_of rfl)
  rw [show parseF (List.replicate 200 0) = (f00, 12) from by decide] at p5
  dsimp only at p1 p2 p3 p4 p5
  conv => whnf
  repeat (first
    | (refine iteT rfl ?_; conv => whnf)
    | (refine iteF rfl ?_; conv => whnf)
    | (refine ⟨_, c1, ?_⟩; conv => whnf)
    | (refine ⟨_, c2, ?_⟩; conv => whnf)
    | (refine ⟨_, c3, ?_⟩; conv => whnf)
    | (refine ⟨_, c4, ?_⟩; conv => whnf)
    | (refine ⟨_, c5, ?_⟩; conv => whnf)
    | (refine ⟨_, c6, ?_⟩; conv => whnf)
    | (refine ⟨_, c7, ?_⟩; conv => whnf)
    | (refine ⟨_, c8, ?_⟩; conv => whnf)
    | (refine ⟨_, c9, ?_⟩; conv => whnf)
    | (refine ⟨_, p1, ?_⟩; conv => whnf)
    | (refine ⟨_, p2, ?_⟩; conv => whnf)
    | (refine ⟨_, p3, ?_⟩; conv => whnf)
    | (refine ⟨_, p4, ?_⟩; conv => whnf)
    | (refine ⟨_, p5, ?_⟩; conv => whnf)
    | (refine ⟨_, f64_ok, ?_⟩; conv => whnf))
  rfl
end Go.Proofs.Ytjgffjofgeppoaa.AM
