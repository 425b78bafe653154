/- ReplyNames: the walk of the law. -/
import Derived.Test.YtjgffjofgeppoaaReplyG
namespace Go.Proofs.Ytjgffjofgeppoaa.AM
open Go Go.Proofs
set_option maxRecDepth 100000
def M9 : Int := 1000000000
def finesP : List Rp := [⟨2, 0, 0, 0, 0, 0⟩, ⟨2, 15, 1000000000, 1000000000, 1000000000, 0⟩, ⟨3, 0, 0, 0, 0, 1⟩, ⟨3, 15, 0, 0, 0, 18446744073709551615⟩, ⟨8, 0, 0, 0, 0, 0⟩]
def badsP : List Rp := [⟨0, 0, 0, 0, 0, 0⟩, ⟨9, 0, 0, 0, 0, 0⟩, ⟨255, 0, 0, 0, 0, 0⟩, ⟨2, 0, 0, 0, 0, 1⟩, ⟨3, 0, 0, 0, 0, 0⟩, ⟨2, 16, 0, 0, 0, 0⟩, ⟨3, 4294967295, 0, 0, 0, 1⟩, ⟨2, 0, 0, 0, 1000000001, 0⟩, ⟨3, 0, 4294967295, 0, 0, 2⟩, ⟨1, 1, 0, 0, 0, 0⟩, ⟨4, 0, 0, 0, 0, 1⟩, ⟨5, 0, 0, 1, 0, 0⟩]
theorem rok {c t l0 l1 l2 w : Int} (h1 : 0 ≤ c ∧ c < 256) (h2 : 0 ≤ t ∧ t < 4294967296) (h3 : 0 ≤ l0 ∧ l0 < 4294967296) (h4 : 0 ≤ l1 ∧ l1 < 4294967296) (h5 : 0 ≤ l2 ∧ l2 < 4294967296) (h6 : 0 ≤ w ∧ w < 18446744073709551616) : (⟨c, t, l0, l1, l2, w⟩ : Rp).ok := ⟨h1, h2, h3, h4, h5, h6⟩
theorem finesP_ok : ∀ r ∈ finesP, r.ok ∧ okP r := by
  intro r hr
  simp only [finesP, List.mem_cons, List.not_mem_nil, or_false] at hr
  rcases hr with rfl | rfl | rfl | rfl | rfl <;> exact ⟨rok (by decide) (by decide) (by decide) (by decide) (by decide) (by decide), by decide⟩
theorem badsP_ok : ∀ r ∈ badsP, r.ok ∧ ¬ okP r := by
  intro r hr
  simp only [badsP, List.mem_cons, List.not_mem_nil, or_false] at hr
  rcases hr with rfl | rfl | rfl | rfl | rfl | rfl | rfl | rfl | rfl | rfl | rfl | rfl <;> exact ⟨rok (by decide) (by decide) (by decide) (by decide) (by decide) (by decide), by decide⟩
theorem code_is {c : Int} : codeL c = if c = 1 ∨ (4 ≤ c ∧ c ≤ 8) then (⟨c, 0, 0, 0, 0, 0⟩, 0) else (⟨0, 0, 0, 0, 0, 0⟩, 2) := by
  unfold codeL
  by_cases h : c = 1 ∨ (4 ≤ c ∧ c ≤ 8)
  · rw [if_pos h, if_neg]
    rintro (h1 | h1)
    · have : c = 2 ∨ c = 3 := by simpa [longP] using h1
      omega
    · apply h1
      unfold okP
      split
      · rename_i h0
        dsimp only at h0
        omega
      · exact ⟨by dsimp only; omega, by dsimp only; omega, rfl, rfl, rfl, rfl, rfl⟩
  · rw [if_neg h, if_pos]
    by_cases h2 : c = 2 ∨ c = 3
    · left
      simpa [longP] using h2
    · right
      intro h3
      unfold okP at h3
      rw [if_neg h2] at h3
      have h4 := h3.1
      have h5 := h3.2.1
      dsimp only at h4 h5
      omega
set_option maxHeartbeats 4000000 in
theorem f13_ok : Fn Try.prog X.G 13 [] (.p (.b true)) := by
  refine Fn.intro (I := []) hX hm 0 Try.func13 rfl rfl (by kernel_rfl) rfl ?_
  conv => whnf
  refine LoopJ.intro (I := []) (base' := 0) hX hm (by kernel_rfl) (σ := Nat) (fun i => [(1, .p (.i .i64 i))]) (fun _ => []) (fun i => i ≤ 256) (fun i => 256 - i) 0 []
    (Nat.zero_le _) ⟨nofun, rfl, ⟨rfl, rfl, trivial⟩, trivial⟩ ?_
  intro i hi
  conv => whnf
  refine iteC (fun h => ?_) (fun h => ?_)
  · have h := of_decide_eq_true h
    have hi256 : i < 256 := by omega
    have ec : IntKind.u8.wrap (i : Int) = i := wr_u8 (by omega) (by omega)
    have c1 := f39_ok (IntKind.u8.wrap (i : Int)) (by rw [ec]; omega)
    rw [code_is] at c1
    have same : (!PV.same (rpv ⟨IntKind.u8.wrap (i : Int), 0, 0, 0, 0, 0⟩) (rpv ⟨IntKind.u8.wrap (i : Int), 0, 0, 0, 0, 0⟩)) = false := by rw [same_rpT]; rfl
    have key : (i = 1 ∨ (4 ≤ i ∧ i ≤ 8)) ∨ (i ≠ 1 ∧ i < 4) ∨ (i ≠ 1 ∧ 4 ≤ i ∧ 8 < i) := by omega
    conv => whnf
    rcases key with hk | ⟨k1, k2⟩ | ⟨k1, k2, k3⟩
    · rw [if_pos (by rw [ec]; omega)] at c1
      rcases hk with rfl | ⟨k2, k3⟩
      · refine ⟨_, c1, ?_⟩
        conv => whnf
        repeat (first
          | (refine iteT rfl ?_; conv => whnf)
          | (refine iteF rfl ?_; conv => whnf)
          | (refine iteF same ?_; conv => whnf))
        exact ⟨2, [], by omega, by dsimp only; omega, nofun, rfl, ⟨rfl, rfl, trivial⟩, trivial⟩
      · refine ⟨_, c1, ?_⟩
        conv => whnf
        refine iteF (beq_eq_false_iff_ne.2 (by omega)) ?_
        conv => whnf
        refine iteT (decide_eq_true (by omega)) ?_
        conv => whnf
        refine iteT (decide_eq_true (by omega)) ?_
        conv => whnf
        repeat (first
          | (refine iteT rfl ?_; conv => whnf)
          | (refine iteF rfl ?_; conv => whnf)
          | (refine iteF same ?_; conv => whnf))
        exact ⟨i + 1, [], by omega, by dsimp only; omega, nofun, rfl, ⟨incN (by omega), rfl, trivial⟩, trivial⟩
    · rw [if_neg (by rw [ec]; omega)] at c1
      refine ⟨_, c1, ?_⟩
      conv => whnf
      refine iteF (beq_eq_false_iff_ne.2 (by omega)) ?_
      conv => whnf
      refine iteF (decide_eq_false (by omega)) ?_
      conv => whnf
      repeat (first
        | (refine iteT rfl ?_; conv => whnf)
        | (refine iteF rfl ?_; conv => whnf))
      exact ⟨i + 1, [], by omega, by dsimp only; omega, nofun, rfl, ⟨incN (by omega), rfl, trivial⟩, trivial⟩
    · rw [if_neg (by rw [ec]; omega)] at c1
      refine ⟨_, c1, ?_⟩
      conv => whnf
      refine iteF (beq_eq_false_iff_ne.2 (by omega)) ?_
      conv => whnf
      refine iteT (decide_eq_true (by omega)) ?_
      conv => whnf
      refine iteF (decide_eq_false (by omega)) ?_
      conv => whnf
      repeat (first
        | (refine iteT rfl ?_; conv => whnf)
        | (refine iteF rfl ?_; conv => whnf))
      exact ⟨i + 1, [], by omega, by dsimp only; omega, nofun, rfl, ⟨incN (by omega), rfl, trivial⟩, trivial⟩
  clear h hi
  conv => whnf
  refine LoopJ.intro (I := []) (base' := 0) hX hm (by kernel_rfl) (σ := Nat) (fun i => [(5, .own 616), (6, .p (.i .i64 i))]) (fun _ => [(616, .els true rsh (finesP.map rpv))]) (fun i => i ≤ 5) (fun i => 5 - i) 0 []
    (Nat.zero_le _) ⟨nofun, rfl, ⟨rfl, rfl, rfl, rfl, trivial⟩, ⟨rfl, rfl, trivial⟩⟩ ?_
  intro i hi
  conv => whnf
  refine iteC (fun h => ?_) (fun h => ?_)
  · have h := of_decide_eq_true h
    have hlen : finesP.length = 5 := rfl
    have hlt : i < finesP.length := by
      rw [List.length_map, hlen] at h
      omega
    obtain ⟨ho, hk⟩ := finesP_ok _ (List.getElem_mem hlt)
    have hg := getM (f := rpv) hlt
    have hn := nthM (f := rpv) hlt
    generalize finesP[i] = r at *
    have c1 := f41_ok r ho
    rw [show writeP r = bytesP r from by unfold writeP; rw [if_pos hk], ← chk_0 hk] at c1
    have c2 := f50_ok (bytesP r) (bytesP_byt ho) (by rw [bytesP_len]; decide)
    rw [parse_w ho hk] at c2
    dsimp only at c2
    have c3 := f43_ok r ho
    rw [← chk_0 hk] at c3
    have hlr : (((bv (bytesP r)).length : Int) != 32) = false := by rw [List.length_map, bytesP_len]; rfl
    have same : (!PV.same (rpv r) (rpv r)) = false := by rw [same_rpT]; rfl
    conv => whnf
    iterate 2
      conv => arg 2; repeat (first | rw [hg] | rw [hn] | (whnf; arg 2))
      conv => whnf
    refine ⟨_, c1, ?_⟩
    conv => whnf
    refine ⟨_, c2, ?_⟩
    conv => whnf
    iterate 2
      conv => arg 2; repeat (first | rw [hg] | rw [hn] | (whnf; arg 2))
      conv => whnf
    refine ⟨_, c3, ?_⟩
    conv => whnf
    refine iteF rfl ?_
    conv => whnf
    refine iteF rfl ?_
    conv => whnf
    refine iteF hlr ?_
    conv => whnf
    refine iteF rfl ?_
    conv => whnf
    iterate 2
      conv => arg 2; repeat (first | rw [hg] | rw [hn] | (whnf; arg 2))
      conv => whnf
    refine iteF same ?_
    conv => whnf
    exact ⟨i + 1, [], by omega, by dsimp only; omega, nofun, rfl, ⟨rfl, rfl, incN (by omega), rfl, trivial⟩, ⟨rfl, rfl, trivial⟩⟩
  clear h hi
  conv => whnf
  refine LoopJ.intro (I := []) (base' := 0) hX hm (by kernel_rfl) (σ := Nat) (fun i => [(11, .own 1112), (12, .p (.i .i64 i))]) (fun _ => [(1112, .els true rsh (badsP.map rpv))]) (fun i => i ≤ 12) (fun i => 12 - i) 0 []
    (Nat.zero_le _) ⟨nofun, rfl, ⟨rfl, rfl, rfl, rfl, trivial⟩, ⟨rfl, rfl, trivial⟩⟩ ?_
  intro i hi
  conv => whnf
  refine iteC (fun h => ?_) (fun h => ?_)
  · have h := of_decide_eq_true h
    have hlen : badsP.length = 12 := rfl
    have hlt : i < badsP.length := by
      rw [List.length_map, hlen] at h
      omega
    obtain ⟨ho, hk⟩ := badsP_ok _ (List.getElem_mem hlt)
    have hg := getM (f := rpv) hlt
    have hn := nthM (f := rpv) hlt
    generalize badsP[i] = r at *
    have c1 := f41_ok r ho
    rw [show writeP r = [] from by unfold writeP; rw [if_neg hk], ← chk_8 hk] at c1
    have c3 := f43_ok r ho
    rw [← chk_8 hk] at c3
    conv => whnf
    iterate 2
      conv => arg 2; repeat (first | rw [hg] | rw [hn] | (whnf; arg 2))
      conv => whnf
    refine ⟨_, c1, ?_⟩
    conv => whnf
    iterate 2
      conv => arg 2; repeat (first | rw [hg] | rw [hn] | (whnf; arg 2))
      conv => whnf
    refine ⟨_, c3, ?_⟩
    conv => whnf
    refine iteF rfl ?_
    conv => whnf
    refine iteF rfl ?_
    conv => whnf
    exact ⟨i + 1, [], by omega, by dsimp only; omega, nofun, rfl, ⟨rfl, rfl, incN (by omega), rfl, trivial⟩, ⟨rfl, rfl, trivial⟩⟩
  clear h hi
  have c3 := f41_ok gP gP_ok
  rw [show writeP gP = gPb from by decide, show chkP gP = 0 from by decide] at c3
  have p1 := f50_ok (gPb.take 31) (byt_of rfl) (by decide)
  rw [show parseP (gPb.take 31) = (r0, 12) from by decide] at p1
  have p2 := f50_ok (gPb ++ [0]) (byt_of rfl) (by decide)
  rw [show parseP (gPb ++ [0]) = (r0, 12) from by decide] at p2
  have p3 := Fn.nil1 (t := .one) (f50_ok [] (byt_of rfl) (by decide))
  rw [show parseP [] = (r0, 12) from by decide] at p3
  have p4 := f50_ok (List.replicate 32 0) (byt_of rfl) (by decide)
  rw [show parseP (List.replicate 32 0) = (r0, 12) from by decide] at p4
  have p5 := f50_ok (gPb.set 1 1) (byt_of rfl) (by decide)
  rw [show parseP (gPb.set 1 1) = (r0, 12) from by decide] at p5
  have p6 := f50_ok (gPb.set 31 1) (byt_of rfl) (by decide)
  rw [show parseP (gPb.set 31 1) = (r0, 12) from by decide] at p6
  dsimp only at p1 p2 p3 p4 p5 p6
  conv => whnf
  refine ⟨_, f60_ok, ?_⟩
  conv => whnf
  refine ⟨_, c3, ?_⟩
  conv => whnf
  refine iteF rfl ?_
  conv => whnf
  refine iteF rfl ?_
  conv => whnf
  refine ⟨_, p1, ?_⟩
  conv => whnf
  refine ⟨_, p2, ?_⟩
  conv => whnf
  refine ⟨_, p3, ?_⟩
  conv => whnf
  refine ⟨_, p4, ?_⟩
  conv => whnf
  refine ⟨_, p5, ?_⟩
  conv => whnf
  refine ⟨_, p6, ?_⟩
  conv => whnf
  repeat (first
    | (refine iteT rfl ?_; conv => whnf)
    | (refine ⟨_, f61_ok, ?_⟩; conv => whnf))
  rfl
end Go.Proofs.Ytjgffjofgeppoaa.AM
