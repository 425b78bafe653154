/- ReplyBare: the walk of the law. -/
import Derived.Test.YtjgffjofgeppoaaReplyE
namespace Go.Proofs.Ytjgffjofgeppoaa.AM
open Go Go.Proofs
set_option maxRecDepth 100000
theorem parse_w {r : Rp} (hr : r.ok) (h : okP r) : parseP (bytesP r) = (r, 0) := by
  have : goodB (bytesP r) := ⟨bytesP_len r, by rw [rd_bytes hr]; exact h, by rw [rd_bytes hr]⟩
  rw [parse_good this, rd_bytes hr]
def bareB (c : Int) : List Int := c :: List.replicate 31 0
theorem bare_get {c : Int} {i : Nat} (h : i + 1 < (c :: List.replicate 31 (0 : Int)).length) : (c :: List.replicate 31 (0 : Int))[i + 1] = 0 := by
  rw [List.getElem_cons_succ, List.getElem_replicate]
theorem bare_bytes (c : Int) : bytesP ⟨c, 0, 0, 0, 0, 0⟩ = bareB c := by
  have e4 : bytesU 0 4 = [0, 0, 0, 0] := by decide
  have e8 : bytesU 0 8 = [0, 0, 0, 0, 0, 0, 0, 0] := by decide
  simp only [bytesP, e4, e8]
  rfl
theorem bare_only {s : Rp} {c : Int} (h : okP s) (hc : s.c = c) (hl : longP c = false) : s = ⟨c, 0, 0, 0, 0, 0⟩ := by
  obtain ⟨a, t, l0, l1, l2, w⟩ := s
  dsimp only at hc
  subst hc
  unfold okP at h
  split at h
  · rename_i h0
    rcases h0 with h0 | h0 <;> (dsimp only at h0; subst h0; cases hl)
  · obtain ⟨_, _, h1, h2, h3, h4, h5⟩ := h
    dsimp only at h1 h2 h3 h4 h5
    subst h1 h2 h3 h4 h5
    rfl
set_option maxHeartbeats 2000000 in
theorem f15_ok (c : Int) (hc : 0 ≤ c ∧ c < 256) (s : Rp) (hs : s.ok) : Fn Try.prog X.G 15 [.p (.i .u8 c), .p (rpv s)] (.p (.b true)) := by
  refine Fn.intro (I := []) hX hm 0 Try.func15 rfl rfl (by kernel_rfl) rfl ?_
  have c1 := f39_ok c hc
  by_cases hcd : longP c = true ∨ ¬ okP ⟨c, 0, 0, 0, 0, 0⟩
  · rw [show codeL c = (⟨0, 0, 0, 0, 0, 0⟩, 2) from by unfold codeL; rw [if_pos hcd]] at c1
    have hout : c < 1 ∨ c > 8 ∨ c = 2 ∨ c = 3 := by
      rcases hcd with h | h
      · have : c = 2 ∨ c = 3 := by simpa [longP] using h
        omega
      · apply Classical.byContradiction
        intro hn
        apply h
        unfold okP
        split
        · rename_i h0
          dsimp only at h0
          omega
        · exact ⟨by dsimp only; omega, by dsimp only; omega, rfl, rfl, rfl, rfl, rfl⟩
    clear hcd
    conv => whnf
    refine ⟨_, c1, ?_⟩
    conv => whnf
    refine iteT rfl ?_
    conv => whnf
    refine iteT rfl ?_
    conv => whnf
    repeat' (first
      | (refine iteT rfl ?_; conv => whnf)
      | (refine iteC (fun hh => ?_) (fun hh => ?_) <;> conv => whnf)
      | (refine ⟨_, f61_ok, ?_⟩; conv => whnf))
    any_goals rfl
    exfalso
    simp_all
    omega
  · have hl : longP c = false := by simpa using fun hh => hcd (.inl hh)
    have hk : okP ⟨c, 0, 0, 0, 0, 0⟩ := Classical.not_not.1 fun hh => hcd (.inr hh)
    rw [show codeL c = (⟨c, 0, 0, 0, 0, 0⟩, 0) from by unfold codeL; rw [if_neg hcd]] at c1
    have hb := bare_ok hc
    have c2 := f41_ok _ hb
    have c3 := f50_ok (bytesP ⟨c, 0, 0, 0, 0, 0⟩) (bytesP_byt hb) (by rw [bytesP_len]; decide)
    rw [parse_w hb hk, bare_bytes] at c3
    rw [← chk_0 hk, show writeP ⟨c, 0, 0, 0, 0, 0⟩ = bareB c from by unfold writeP; rw [if_pos hk, bare_bytes]] at c2
    have c4 := f41_ok s hs
    dsimp only at c3
    have hcc : (c != c) = false := bne_self_eq_false c
    conv => whnf
    refine ⟨_, c1, ?_⟩
    conv => whnf
    refine iteF rfl ?_
    conv => whnf
    refine ⟨_, c2, ?_⟩
    conv => whnf
    refine iteF rfl ?_
    conv => whnf
    refine iteF rfl ?_
    conv => whnf
    refine iteF hcc ?_
    conv => whnf
    refine LoopJ.intro (I := []) (base' := 0) hX hm (by kernel_rfl) (σ := Nat) (fun i => [(0, .p (.i .u8 c)), (3, .ptr 24 []), (5, .ptr 40 []), (7, .own 352), (9, .p (.i .i64 (i + 1)))])
      (fun _ => [(24, .var (.p (rpv s))), (40, .var (.p (rpv ⟨c, 0, 0, 0, 0, 0⟩))), (352, .els true ush (bv (bareB c)))]) (fun i => i ≤ 31) (fun i => 31 - i) 0 []
      (Nat.zero_le _) ⟨nofun, rfl, ⟨rfl, rfl, rfl, rfl, rfl, rfl, rfl, rfl, rfl, rfl, trivial⟩, ⟨rfl, rfl, rfl, rfl, rfl, rfl, trivial⟩⟩ ?_
    intro i hi
    conv => whnf
    refine iteC (fun h1 => ?_) (fun h1 => ?_)
    · have h1 := of_decide_eq_true h1
      rw [List.length_map] at h1
      have hlen : (bareB c).length = 32 := rfl
      have hlt : i + 1 < (bareB c).length := by omega
      have hz : (bareB c)[i + 1] = 0 := bare_get hlt
      have hg := getM (f := PV.i .u8) hlt
      have hn := nthM (f := PV.i .u8) hlt
      rw [hz] at hg hn
      have ei : ((i + 1 : Nat) : Int) = (i : Int) + 1 := by omega
      rw [ei] at hg hn
      conv => whnf
      iterate 2
        conv => arg 2; repeat (first | rw [hg] | rw [hn] | (whnf; arg 2))
        conv => whnf
      refine iteF rfl ?_
      conv => whnf
      refine ⟨i + 1, [], by omega, by dsimp only; omega, nofun, rfl, ⟨rfl, rfl, rfl, rfl, rfl, rfl, rfl, rfl, ?_, rfl, trivial⟩, ⟨rfl, rfl, rfl, rfl, rfl, rfl, trivial⟩⟩
      show AV.p (.i .i64 (IntKind.i64.wrap ((i : Int) + 1 + 1))) = AV.p (.i .i64 (((i + 1 : Nat) : Int) + 1))
      rw [wr_i64 (by omega) (by omega), ei]
    · have sameT : PV.same (rpv ⟨c, 0, 0, 0, 0, 0⟩) (rpv ⟨c, 0, 0, 0, 0, 0⟩) = true := same_rpT _
      by_cases k1 : okP s
      · rw [← chk_0 k1] at c4
        by_cases k2 : s.c = c
        · have k3 := bare_only k1 k2 hl
          subst k3
          conv => whnf
          repeat (first
            | (refine iteT rfl ?_; conv => whnf)
            | (refine iteF rfl ?_; conv => whnf)
            | (refine iteT sameT ?_; conv => whnf)
            | (refine iteF hcc ?_; conv => whnf)
            | (refine ⟨_, c3, ?_⟩; conv => whnf)
            | (refine ⟨_, c4, ?_⟩; conv => whnf)
            | (refine ⟨_, f61_ok, ?_⟩; conv => whnf))
          rfl
        · have k4 : (s.c != c) = true := by simpa using k2
          conv => whnf
          repeat (first
            | (refine iteT rfl ?_; conv => whnf)
            | (refine iteF rfl ?_; conv => whnf)
            | (refine iteT sameT ?_; conv => whnf)
            | (refine iteT k4 ?_; conv => whnf)
            | (refine ⟨_, c3, ?_⟩; conv => whnf)
            | (refine ⟨_, c4, ?_⟩; conv => whnf)
            | (refine ⟨_, f61_ok, ?_⟩; conv => whnf))
          rfl
      · rw [← chk_8 k1] at c4
        conv => whnf
        repeat (first
          | (refine iteT rfl ?_; conv => whnf)
          | (refine iteF rfl ?_; conv => whnf)
          | (refine iteT sameT ?_; conv => whnf)
          | (refine ⟨_, c3, ?_⟩; conv => whnf)
          | (refine ⟨_, c4, ?_⟩; conv => whnf)
          | (refine ⟨_, f61_ok, ?_⟩; conv => whnf))
        rfl
end Go.Proofs.Ytjgffjofgeppoaa.AM
