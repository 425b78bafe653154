/- ClockSince: ticks since a tick, and merged lists; the walk of the law. -/
import Derived.Test.YtgjebgplbkjkhaaCkJ
namespace Go.Proofs.Ytgjebgplbkjkhaa.AM
open Go Go.Proofs Go.Sort
set_option maxRecDepth 100000

theorem srt_comm (a b : List Int) : srt (b ++ a) = srt (a ++ b) := rise_uniq ((srt_perm _).trans (List.perm_append_comm.trans (srt_perm _).symm)) (srt_rise _) (srt_rise _)
theorem srt_count (a b : List Int) (x : Int) : (srt (a ++ b)).count x = a.count x + b.count x := by rw [(srt_perm _).count_eq, List.count_append]
set_option maxHeartbeats 16000000 in
theorem f7_ok (x y : Int) (a b : List Int) (hx : tick x) (hy : tick y) : Fn Try.prog X.G 7 [.p (.i .u64 x), .p (.i .u64 y), qs64 a, qs64 b] (.p (.b true)) := by
  refine Fn.intro (I := []) hX hm 0 Try.func7 rfl rfl (by kernel_rfl) rfl ?_
  have ca := f19_ok
  have c1 := f9_ok x y hx hy
  by_cases hxy : x ≤ y
  · unfold tick at hx hy
    have e1 : sinceV x y = y - x ∧ sinceE x y = 0 := ⟨if_neg (by omega), if_neg (by omega)⟩
    rw [e1.1, e1.2] at c1
    have c2 := f11_ok x (y - x) (by unfold tick; omega) (by unfold tick; omega)
    have e2 : afterV x (y - x) = y ∧ afterE x (y - x) = 0 := by
      unfold afterV afterE
      rw [if_neg (by omega), if_neg (by omega)]
      exact ⟨by omega, rfl⟩
    rw [e2.1, e2.2] at c2
    conv => whnf
    refine ⟨_, c1, ?_⟩
    conv => whnf
    refine iteT rfl ?_
    conv => whnf
    refine iteT (decide_eq_true hxy) ?_
    conv => whnf
    refine iteF rfl ?_
    conv => whnf
    refine iteT rfl ?_
    conv => whnf
    refine ⟨_, c2, ?_⟩
    conv => whnf
    refine iteF rfl ?_
    conv => whnf
    refine iteF (by simp) ?_
    conv => whnf
    refine iteC (fun h1 => ?_) (fun h1 => ?_)
    · conv => whnf
      refine ⟨_, ca, ?_⟩
      conv => whnf
      refine iteT rfl ?_
      rfl
    have h1 := of_decide_eq_false h1
    rw [List.length_map] at h1
    conv => whnf
    refine iteC (fun h2 => ?_) (fun h2 => ?_)
    · conv => whnf
      refine ⟨_, ca, ?_⟩
      conv => whnf
      refine iteT rfl ?_
      rfl
    have h2 := of_decide_eq_false h2
    rw [List.length_map] at h2
    have cA := f20_ok a (by omega)
    have cB := f20_ok b (by omega)
    conv => whnf
    refine ⟨_, cA, ?_⟩
    conv => whnf
    refine iteC (fun h3 => ?_) (fun h3 => ?_)
    · conv => whnf
      refine ⟨_, cB, ?_⟩
      conv => whnf
      refine iteC (fun h4 => ?_) (fun h4 => ?_)
      · obtain ⟨e1, e2⟩ := merge_good (a := a) (b := b) (by omega) ⟨h3, h4⟩
        obtain ⟨e3, e4⟩ := merge_good (a := b) (b := a) (by omega) ⟨h4, h3⟩
        have c3 := f13_ok a b (by omega) (by omega)
        have c4 := f13_ok b a (by omega) (by omega)
        rw [e1, e2] at c3
        rw [e3, e4, srt_comm] at c4
        have hS := srt_len (a ++ b)
        have hR := srt_rise (a ++ b)
        have hC := srt_count a b
        rw [List.length_append] at hS
        generalize srt (a ++ b) = S at *
        have c5 := f15_ok S S (by omega)
        rw [decide_eq_true rfl] at c5
        have c6 := f20_ok S (by omega)
        rw [hR] at c6
        have eN : IntKind.i64.wrap (((qv64 a).length : Int) + ((qv64 b).length : Int)) = ((S.length : Nat) : Int) := by rw [List.length_map, List.length_map, wr_i64 (by omega) (by omega)]; omega
        conv => whnf
        refine ⟨_, c3, ?_⟩
        conv => whnf
        refine ⟨_, c4, ?_⟩
        conv => whnf
        refine iteF rfl ?_
        conv => whnf
        refine iteF rfl ?_
        conv => whnf
        refine ⟨_, c5, ?_⟩
        conv => whnf
        refine iteT rfl ?_
        conv => whnf
        refine ⟨_, c6, ?_⟩
        conv => whnf
        refine iteT rfl ?_
        conv => whnf
        refine iteF (by rw [eN, List.length_map]; simp) ?_
        conv => whnf
        refine LoopJ.intro (I := []) (base' := 5000) hX hm (by kernel_rfl) (σ := Nat) (fun i => [(2, qs64 a), (3, qs64 b), (13, .own 1000), (17, .p (.i .i64 i))])
          (fun _ => [(1000, .els true qsh64 (qv64 S))]) (fun i => i ≤ S.length) (fun i => S.length - i) 0 [(1000, 536)]
          (Nat.zero_le _) ⟨nofun, rfl, ⟨rfl, rfl, rfl, rfl, rfl, rfl, rfl, rfl, trivial⟩, ⟨rfl, rfl, trivial⟩⟩ ?_
        intro i hi
        conv => whnf
        refine iteC (fun h5 => ?_) (fun h5 => ?_)
        · have h5 := of_decide_eq_true h5
          rw [List.length_map] at h5
          have hlt : i < S.length := by omega
          have gS := getZ (l := S) (e := (i : Int)) rfl hlt
          have nS := nZ (l := S) (e := (i : Int).toNat) (i := i) rfl hlt
          have hc := hC S[i]
          have t1 := f22_ok S S[i] (by omega)
          have t2 := f22_ok a S[i] (by omega)
          have t3 := f22_ok b S[i] (by omega)
          have l2 : a.count S[i] ≤ a.length := List.count_le_length
          have l3 : b.count S[i] ≤ b.length := List.count_le_length
          generalize S.count S[i] = n1 at *
          generalize a.count S[i] = n2 at *
          generalize b.count S[i] = n3 at *
          have eW : IntKind.i64.wrap ((n2 : Int) + (n3 : Int)) = (n1 : Int) := by rw [wr_i64 (by omega) (by omega)]; omega
          conv => whnf
          iterate 2 (try (conv => arg 2; repeat (first | rw [gS] | rw [nS] | (whnf; arg 2))
                          conv => whnf))
          refine ⟨_, t1, ?_⟩
          conv => whnf
          iterate 2 (try (conv => arg 2; repeat (first | rw [gS] | rw [nS] | (whnf; arg 2))
                          conv => whnf))
          refine ⟨_, t2, ?_⟩
          conv => whnf
          iterate 2 (try (conv => arg 2; repeat (first | rw [gS] | rw [nS] | (whnf; arg 2))
                          conv => whnf))
          refine ⟨_, t3, ?_⟩
          conv => whnf
          refine iteF (by rw [eW]; simp) ?_
          conv => whnf
          exact ⟨i + 1, [], by omega, by dsimp only; omega, nofun, rfl, ⟨rfl, rfl, rfl, rfl, rfl, rfl, incN (by omega), rfl, trivial⟩, ⟨rfl, rfl, trivial⟩⟩
        · conv => whnf
          refine ⟨_, ca, ?_⟩
          conv => whnf
          refine iteT rfl ?_
          rfl
      · conv => whnf
        refine ⟨_, ca, ?_⟩
        conv => whnf
        refine iteT rfl ?_
        rfl
    · conv => whnf
      refine ⟨_, ca, ?_⟩
      conv => whnf
      refine iteT rfl ?_
      rfl
  · have e1 : sinceV x y = 0 ∧ sinceE x y = 32 := ⟨if_pos (by omega), if_pos (by omega)⟩
    rw [e1.1, e1.2] at c1
    conv => whnf
    refine ⟨_, c1, ?_⟩
    conv => whnf
    refine iteF rfl ?_
    conv => whnf
    refine iteF (decide_eq_false hxy) ?_
    conv => whnf
    refine iteF rfl ?_
    conv => whnf
    refine iteF rfl ?_
    conv => whnf
    refine iteC (fun h1 => ?_) (fun h1 => ?_)
    · conv => whnf
      refine ⟨_, ca, ?_⟩
      conv => whnf
      refine iteT rfl ?_
      rfl
    have h1 := of_decide_eq_false h1
    rw [List.length_map] at h1
    conv => whnf
    refine iteC (fun h2 => ?_) (fun h2 => ?_)
    · conv => whnf
      refine ⟨_, ca, ?_⟩
      conv => whnf
      refine iteT rfl ?_
      rfl
    have h2 := of_decide_eq_false h2
    rw [List.length_map] at h2
    have cA := f20_ok a (by omega)
    have cB := f20_ok b (by omega)
    conv => whnf
    refine ⟨_, cA, ?_⟩
    conv => whnf
    refine iteC (fun h3 => ?_) (fun h3 => ?_)
    · conv => whnf
      refine ⟨_, cB, ?_⟩
      conv => whnf
      refine iteC (fun h4 => ?_) (fun h4 => ?_)
      · obtain ⟨e1, e2⟩ := merge_good (a := a) (b := b) (by omega) ⟨h3, h4⟩
        obtain ⟨e3, e4⟩ := merge_good (a := b) (b := a) (by omega) ⟨h4, h3⟩
        have c3 := f13_ok a b (by omega) (by omega)
        have c4 := f13_ok b a (by omega) (by omega)
        rw [e1, e2] at c3
        rw [e3, e4, srt_comm] at c4
        have hS := srt_len (a ++ b)
        have hR := srt_rise (a ++ b)
        have hC := srt_count a b
        rw [List.length_append] at hS
        generalize srt (a ++ b) = S at *
        have c5 := f15_ok S S (by omega)
        rw [decide_eq_true rfl] at c5
        have c6 := f20_ok S (by omega)
        rw [hR] at c6
        have eN : IntKind.i64.wrap (((qv64 a).length : Int) + ((qv64 b).length : Int)) = ((S.length : Nat) : Int) := by rw [List.length_map, List.length_map, wr_i64 (by omega) (by omega)]; omega
        conv => whnf
        refine ⟨_, c3, ?_⟩
        conv => whnf
        refine ⟨_, c4, ?_⟩
        conv => whnf
        refine iteF rfl ?_
        conv => whnf
        refine iteF rfl ?_
        conv => whnf
        refine ⟨_, c5, ?_⟩
        conv => whnf
        refine iteT rfl ?_
        conv => whnf
        refine ⟨_, c6, ?_⟩
        conv => whnf
        refine iteT rfl ?_
        conv => whnf
        refine iteF (by rw [eN, List.length_map]; simp) ?_
        conv => whnf
        refine LoopJ.intro (I := []) (base' := 5000) hX hm (by kernel_rfl) (σ := Nat) (fun i => [(2, qs64 a), (3, qs64 b), (13, .own 1000), (17, .p (.i .i64 i))])
          (fun _ => [(1000, .els true qsh64 (qv64 S))]) (fun i => i ≤ S.length) (fun i => S.length - i) 0 [(1000, 536)]
          (Nat.zero_le _) ⟨nofun, rfl, ⟨rfl, rfl, rfl, rfl, rfl, rfl, rfl, rfl, trivial⟩, ⟨rfl, rfl, trivial⟩⟩ ?_
        intro i hi
        conv => whnf
        refine iteC (fun h5 => ?_) (fun h5 => ?_)
        · have h5 := of_decide_eq_true h5
          rw [List.length_map] at h5
          have hlt : i < S.length := by omega
          have gS := getZ (l := S) (e := (i : Int)) rfl hlt
          have nS := nZ (l := S) (e := (i : Int).toNat) (i := i) rfl hlt
          have hc := hC S[i]
          have t1 := f22_ok S S[i] (by omega)
          have t2 := f22_ok a S[i] (by omega)
          have t3 := f22_ok b S[i] (by omega)
          have l2 : a.count S[i] ≤ a.length := List.count_le_length
          have l3 : b.count S[i] ≤ b.length := List.count_le_length
          generalize S.count S[i] = n1 at *
          generalize a.count S[i] = n2 at *
          generalize b.count S[i] = n3 at *
          have eW : IntKind.i64.wrap ((n2 : Int) + (n3 : Int)) = (n1 : Int) := by rw [wr_i64 (by omega) (by omega)]; omega
          conv => whnf
          iterate 2 (try (conv => arg 2; repeat (first | rw [gS] | rw [nS] | (whnf; arg 2))
                          conv => whnf))
          refine ⟨_, t1, ?_⟩
          conv => whnf
          iterate 2 (try (conv => arg 2; repeat (first | rw [gS] | rw [nS] | (whnf; arg 2))
                          conv => whnf))
          refine ⟨_, t2, ?_⟩
          conv => whnf
          iterate 2 (try (conv => arg 2; repeat (first | rw [gS] | rw [nS] | (whnf; arg 2))
                          conv => whnf))
          refine ⟨_, t3, ?_⟩
          conv => whnf
          refine iteF (by rw [eW]; simp) ?_
          conv => whnf
          exact ⟨i + 1, [], by omega, by dsimp only; omega, nofun, rfl, ⟨rfl, rfl, rfl, rfl, rfl, rfl, incN (by omega), rfl, trivial⟩, ⟨rfl, rfl, trivial⟩⟩
        · conv => whnf
          refine ⟨_, ca, ?_⟩
          conv => whnf
          refine iteT rfl ?_
          rfl
      · conv => whnf
        refine ⟨_, ca, ?_⟩
        conv => whnf
        refine iteT rfl ?_
        rfl
    · conv => whnf
      refine ⟨_, ca, ?_⟩
      conv => whnf
      refine iteT rfl ?_
      rfl
end Go.Proofs.Ytgjebgplbkjkhaa.AM
