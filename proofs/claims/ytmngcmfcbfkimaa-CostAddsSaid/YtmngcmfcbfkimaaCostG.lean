/- CostFirst: the walk of the law. -/
import Derived.Test.YtmngcmfcbfkimaaCostF
namespace Go.Proofs.Ytmngcmfcbfkimaa.AM
open Go Go.Proofs
set_option maxRecDepth 100000
theorem f7_ok (l : List R) (x : R) (hx : x.ok) (a n : Int) (hn : 0 ≤ n) (hn' : n < 4294967296) :
    Fn Try.prog X.G 7 [rvs l, .p (rv x), .p (.i .u16 a), .p (.i .u32 n)] (.p (.b true)) := by
  refine Fn.intro (I := []) hX hm 0 Try.func7 rfl rfl (by kernel_rfl) rfl ?_
  conv => whnf
  refine ⟨_, f35_ok, ?_⟩
  conv => whnf
  refine ⟨_, f29_ok l, ?_⟩
  conv => whnf
  refine iteC (fun h => ?_) (fun h => ?_)
  · conv => whnf
    rfl
  have h : checkL l = 0 := by simpa using h
  conv => whnf
  refine iteC (fun h2 => ?_) (fun h2 => ?_)
  · conv => whnf
    rfl
  have h2 := of_decide_eq_false h2
  rw [List.length_map] at h2
  conv => whnf
  refine ⟨_, f36_ok x, ?_⟩
  refine iteC (fun hv => ?_) (fun hv => ?_)
  case refine_2 =>
    conv => whnf
    rfl
  have c1 := f24_ok l a n
  have c2 := f26_ok l a n
  have c3 := f24_ok (l ++ [x]) a n
  have c4 := f26_ok (x :: l) a n
  have c5 := f37_ok x a n
  rw [find_snoc h hv (by omega)] at c3
  rw [price_cons h hv (by omega)] at c4
  have e3 : (l ++ [x]).map rv = l.map rv ++ [rv x] := by simp
  unfold rvs at c3
  rw [e3] at c3
  have hcost := costR_eq hx hv hn hn'
  by_cases he : (findL l a n).2 = 0
  · obtain ⟨i, hi, e1, e2, e4, e5⟩ := find_some h he
    have hg := getI_map (f := rv) hi
    have c6 := f37_ok l[i] a n
    rw [e4] at c6
    rw [e1] at c1 c3
    rw [e2] at c2 c4
    rw [if_pos rfl] at c3
    dsimp only at c1 c2 c3
    have hw1 : (costR l[i] n != IntKind.u64.wrap (IntKind.u64.wrap (IntKind.u64.wrap l[i].fac * IntKind.u64.wrap n) + IntKind.u64.wrap l[i].plus)) = false := bne_self_eq_false _
    have hw2 : (costR x n != IntKind.u64.wrap (IntKind.u64.wrap (IntKind.u64.wrap x.fac * IntKind.u64.wrap n) + IntKind.u64.wrap x.plus)) = false := bne_self_eq_false _
    generalize hb : fitsR x a n = b at c4 c5
    cases b
    · rw [if_neg (by simp)] at c4
      dsimp only at c4
      conv => whnf
      refine ⟨_, c1, ?_⟩
      conv => whnf
      refine ⟨_, c2, ?_⟩
      conv => whnf
      conv => arg 2; repeat (first | rw [capT _ (by simp; omega)] | (whnf; arg 2))
      conv => whnf
      conv => arg 2; repeat (first | rw [capT _ (by simp; omega)] | (whnf; arg 2))
      conv => whnf
      refine ⟨_, c3, ?_⟩
      conv => whnf
      conv => arg 2; repeat (first | rw [capT _ (by simp; omega)] | (whnf; arg 2))
      conv => whnf
      refine ⟨_, c4, ?_⟩
      conv => whnf
      refine ⟨_, c5, ?_⟩
      conv => whnf
      repeat (first
        | (refine iteF ?_ ?_; (focus (simp [hi]; done)); conv => whnf)
        | (refine iteT ?_ ?_; (focus (simp [hi]; done)); conv => whnf))
      conv => arg 2; repeat (first | rw [hg] | (whnf; arg 2))
      conv => whnf
      refine ⟨_, c6, ?_⟩
      conv => whnf
      repeat (first
        | (refine iteF ?_ ?_; (focus (simp; done)); conv => whnf)
        | (refine iteT ?_ ?_; (focus (simp; done)); conv => whnf))
      conv => arg 2; repeat (first | rw [hg] | (whnf; arg 2))
      conv => whnf
      repeat (first
        | (refine iteF ?_ ?_; (focus (simp; done)); conv => whnf)
        | (refine iteT ?_ ?_; (focus (simp [hi]; done)); conv => whnf))
      conv => arg 2; repeat (first | rw [hg] | (whnf; arg 2))
      conv => whnf
      conv => arg 2; repeat (first | rw [hg] | (whnf; arg 2))
      conv => whnf
      repeat (first
        | (refine iteF ?_ ?_; (focus (simp [hw1]; done)); conv => whnf)
        | (refine iteT ?_ ?_; (focus (simp [hi]; done)); conv => whnf))
      refine LoopJ.intro (I := []) (base' := 0) hX hm (by kernel_rfl) (σ := Nat) (fun k => [(0, rvs l), (2, .p (.i .u16 a)), (3, .p (.i .u32 n)), (9, .p (.b true)), (10, .p (.i .i64 i)), (23, .p (.i .i64 k))])
        (fun _ => []) (fun k => k ≤ i) (fun k => i - k) 0 []
        (by omega) ⟨nofun, rfl, ⟨rfl, rfl, rfl, rfl, rfl, rfl, rfl, rfl, rfl, rfl, rfl, rfl, trivial⟩, trivial⟩ ?_
      intro k hk
      conv => whnf
      refine iteC (fun h3 => ?_) (fun h3 => ?_)
      · have h3 := of_decide_eq_true h3
        have hk2 : k < l.length := by omega
        have hgk := getI_map (f := rv) hk2
        have c7 := f37_ok l[k] a n
        rw [e5 k hk2 (by omega)] at c7
        conv => whnf
        conv => arg 2; repeat (first | rw [hgk] | (whnf; arg 2))
        conv => whnf
        refine ⟨_, c7, ?_⟩
        conv => whnf
        refine iteF rfl ?_
        conv => whnf
        exact ⟨k + 1, [], by omega, by dsimp only; omega, nofun, rfl, ⟨rfl, rfl, rfl, rfl, rfl, rfl, rfl, rfl, rfl, rfl, inc_eq hk2 (by omega), rfl, trivial⟩, trivial⟩
      · rfl
    · rw [if_pos rfl] at c4
      dsimp only at c4
      conv => whnf
      refine ⟨_, c1, ?_⟩
      conv => whnf
      refine ⟨_, c2, ?_⟩
      conv => whnf
      conv => arg 2; repeat (first | rw [capT _ (by simp; omega)] | (whnf; arg 2))
      conv => whnf
      conv => arg 2; repeat (first | rw [capT _ (by simp; omega)] | (whnf; arg 2))
      conv => whnf
      refine ⟨_, c3, ?_⟩
      conv => whnf
      conv => arg 2; repeat (first | rw [capT _ (by simp; omega)] | (whnf; arg 2))
      conv => whnf
      refine ⟨_, c4, ?_⟩
      conv => whnf
      refine ⟨_, c5, ?_⟩
      conv => whnf
      repeat (first
        | (refine iteF ?_ ?_; (focus (simp [hi, hw2]; done)); conv => whnf)
        | (refine iteT ?_ ?_; (focus (simp; done)); conv => whnf))
      conv => arg 2; repeat (first | rw [hg] | (whnf; arg 2))
      conv => whnf
      refine ⟨_, c6, ?_⟩
      conv => whnf
      repeat (first
        | (refine iteF ?_ ?_; (focus (simp; done)); conv => whnf)
        | (refine iteT ?_ ?_; (focus (simp; done)); conv => whnf))
      conv => arg 2; repeat (first | rw [hg] | (whnf; arg 2))
      conv => whnf
      repeat (first
        | (refine iteF ?_ ?_; (focus (simp; done)); conv => whnf)
        | (refine iteT ?_ ?_; (focus (simp [hi]; done)); conv => whnf))
      conv => arg 2; repeat (first | rw [hg] | (whnf; arg 2))
      conv => whnf
      conv => arg 2; repeat (first | rw [hg] | (whnf; arg 2))
      conv => whnf
      repeat (first
        | (refine iteF ?_ ?_; (focus (simp [hw1]; done)); conv => whnf)
        | (refine iteT ?_ ?_; (focus (simp [hi]; done)); conv => whnf))
      refine LoopJ.intro (I := []) (base' := 0) hX hm (by kernel_rfl) (σ := Nat) (fun k => [(0, rvs l), (2, .p (.i .u16 a)), (3, .p (.i .u32 n)), (9, .p (.b true)), (10, .p (.i .i64 i)), (23, .p (.i .i64 k))])
        (fun _ => []) (fun k => k ≤ i) (fun k => i - k) 0 []
        (by omega) ⟨nofun, rfl, ⟨rfl, rfl, rfl, rfl, rfl, rfl, rfl, rfl, rfl, rfl, rfl, rfl, trivial⟩, trivial⟩ ?_
      intro k hk
      conv => whnf
      refine iteC (fun h3 => ?_) (fun h3 => ?_)
      · have h3 := of_decide_eq_true h3
        have hk2 : k < l.length := by omega
        have hgk := getI_map (f := rv) hk2
        have c7 := f37_ok l[k] a n
        rw [e5 k hk2 (by omega)] at c7
        conv => whnf
        conv => arg 2; repeat (first | rw [hgk] | (whnf; arg 2))
        conv => whnf
        refine ⟨_, c7, ?_⟩
        conv => whnf
        refine iteF rfl ?_
        conv => whnf
        exact ⟨k + 1, [], by omega, by dsimp only; omega, nofun, rfl, ⟨rfl, rfl, rfl, rfl, rfl, rfl, rfl, rfl, rfl, rfl, inc_eq hk2 (by omega), rfl, trivial⟩, trivial⟩
      · rfl
  · obtain ⟨e1, e2⟩ := find_none h he
    have e3 : (priceL l a n) = (0, 0, 6) := by
      unfold priceL
      rw [if_pos he, e1]
    have hw1 : True := trivial
    have hw2 : (costR x n != IntKind.u64.wrap (IntKind.u64.wrap (IntKind.u64.wrap x.fac * IntKind.u64.wrap n) + IntKind.u64.wrap x.plus)) = false := bne_self_eq_false _
    have hi : True := trivial
    have e4 : (findL l a n).1 = 0 := by
      rw [findL_eq h] at he ⊢
      unfold findV at he ⊢
      split
      · rename_i hh; rw [hh] at he; simp at he
      · rfl
    rw [if_neg he] at c3
    rw [e1, e4] at c1
    rw [e3] at c2 c4
    dsimp only at c1 c2
    generalize hb : fitsR x a n = b at c3 c4 c5
    cases b
    · rw [if_neg (by simp)] at c4 c3
      dsimp only at c4 c3
      conv => whnf
      refine ⟨_, c1, ?_⟩
      conv => whnf
      refine ⟨_, c2, ?_⟩
      conv => whnf
      conv => arg 2; repeat (first | rw [capT _ (by simp; omega)] | (whnf; arg 2))
      conv => whnf
      conv => arg 2; repeat (first | rw [capT _ (by simp; omega)] | (whnf; arg 2))
      conv => whnf
      refine ⟨_, c3, ?_⟩
      conv => whnf
      conv => arg 2; repeat (first | rw [capT _ (by simp; omega)] | (whnf; arg 2))
      conv => whnf
      refine ⟨_, c4, ?_⟩
      conv => whnf
      refine ⟨_, c5, ?_⟩
      conv => whnf
      repeat (first
        | (refine iteF ?_ ?_; (focus (simp; done)); conv => whnf)
        | (refine iteT ?_ ?_; (focus (simp; done)); conv => whnf))
      refine LoopJ.intro (I := []) (base' := 0) hX hm (by kernel_rfl) (σ := Nat) (fun k => [(0, rvs l), (2, .p (.i .u16 a)), (3, .p (.i .u32 n)), (9, .p (.b true)), (11, .p (.i .i64 6)), (15, .p (.i .i64 0)), (16, .p (.i .i64 6)), (21, .p (.b false)), (22, .p (.i .i64 k))])
        (fun _ => []) (fun k => k ≤ l.length) (fun k => l.length - k) 0 []
        (by omega) ⟨nofun, rfl, ⟨rfl, rfl, rfl, rfl, rfl, rfl, rfl, rfl, rfl, rfl, rfl, rfl, rfl, rfl, rfl, rfl, rfl, rfl, trivial⟩, trivial⟩ ?_
      intro k hk
      conv => whnf
      refine iteC (fun h3 => ?_) (fun h3 => ?_)
      · have h3 := of_decide_eq_true h3
        rw [List.length_map] at h3
        have hk2 : k < l.length := by omega
        have hgk := getI_map (f := rv) hk2
        have c7 := f37_ok l[k] a n
        rw [e2 k hk2] at c7
        conv => whnf
        conv => arg 2; repeat (first | rw [hgk] | (whnf; arg 2))
        conv => whnf
        refine ⟨_, c7, ?_⟩
        conv => whnf
        refine iteF rfl ?_
        conv => whnf
        exact ⟨k + 1, [], by omega, by dsimp only; omega, nofun, rfl, ⟨rfl, rfl, rfl, rfl, rfl, rfl, rfl, rfl, rfl, rfl, rfl, rfl, rfl, rfl, rfl, rfl, inc_eq hk2 (by omega), rfl, trivial⟩, trivial⟩
      · conv => whnf
        repeat (first
          | (refine iteF ?_ ?_; (focus (simp; done)); conv => whnf)
          | (refine iteT ?_ ?_; (focus (simp; done)); conv => whnf))
        rfl
    · rw [if_pos rfl] at c4 c3
      dsimp only at c4 c3
      conv => whnf
      refine ⟨_, c1, ?_⟩
      conv => whnf
      refine ⟨_, c2, ?_⟩
      conv => whnf
      conv => arg 2; repeat (first | rw [capT _ (by simp; omega)] | (whnf; arg 2))
      conv => whnf
      conv => arg 2; repeat (first | rw [capT _ (by simp; omega)] | (whnf; arg 2))
      conv => whnf
      refine ⟨_, c3, ?_⟩
      conv => whnf
      conv => arg 2; repeat (first | rw [capT _ (by simp; omega)] | (whnf; arg 2))
      conv => whnf
      refine ⟨_, c4, ?_⟩
      conv => whnf
      refine ⟨_, c5, ?_⟩
      conv => whnf
      repeat (first
        | (refine iteF ?_ ?_; (focus (simp [hw2]; done)); conv => whnf)
        | (refine iteT ?_ ?_; (focus (simp; done)); conv => whnf))
      refine LoopJ.intro (I := []) (base' := 0) hX hm (by kernel_rfl) (σ := Nat) (fun k => [(0, rvs l), (2, .p (.i .u16 a)), (3, .p (.i .u32 n)), (9, .p (.b true)), (11, .p (.i .i64 6)), (15, .p (.i .i64 l.length)), (16, .p (.i .i64 0)), (21, .p (.b true)), (22, .p (.i .i64 k))])
        (fun _ => []) (fun k => k ≤ l.length) (fun k => l.length - k) 0 []
        (by omega) ⟨nofun, rfl, ⟨rfl, rfl, rfl, rfl, rfl, rfl, rfl, rfl, rfl, rfl, rfl, rfl, rfl, rfl, rfl, rfl, rfl, rfl, trivial⟩, trivial⟩ ?_
      intro k hk
      conv => whnf
      refine iteC (fun h3 => ?_) (fun h3 => ?_)
      · have h3 := of_decide_eq_true h3
        rw [List.length_map] at h3
        have hk2 : k < l.length := by omega
        have hgk := getI_map (f := rv) hk2
        have c7 := f37_ok l[k] a n
        rw [e2 k hk2] at c7
        conv => whnf
        conv => arg 2; repeat (first | rw [hgk] | (whnf; arg 2))
        conv => whnf
        refine ⟨_, c7, ?_⟩
        conv => whnf
        refine iteF rfl ?_
        conv => whnf
        exact ⟨k + 1, [], by omega, by dsimp only; omega, nofun, rfl, ⟨rfl, rfl, rfl, rfl, rfl, rfl, rfl, rfl, rfl, rfl, rfl, rfl, rfl, rfl, rfl, rfl, inc_eq hk2 (by omega), rfl, trivial⟩, trivial⟩
      · conv => whnf
        repeat (first
          | (refine iteF ?_ ?_; (focus (simp; done)); conv => whnf)
          | (refine iteT ?_ ?_; (focus (simp; done)); conv => whnf))
        rfl

end Go.Proofs.Ytmngcmfcbfkimaa.AM
