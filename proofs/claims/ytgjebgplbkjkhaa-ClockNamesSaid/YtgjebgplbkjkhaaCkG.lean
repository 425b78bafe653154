/- Differences; ClockTicks: the walk of the law. -/
import Derived.Test.YtgjebgplbkjkhaaCkF
import Derived.Test.YtgjebgplbkjkhaaCkC
namespace Go.Proofs.Ytgjebgplbkjkhaa.AM
open Go Go.Proofs Go.Sort
set_option maxRecDepth 100000

def sinceV (x y : Int) : Int := if y < x then 0 else y - x
def sinceE (x y : Int) : Int := if y < x then 32 else 0
def afterV (x y : Int) : Int := if 18446744073709551616 ≤ x + y then 0 else x + y
def afterE (x y : Int) : Int := if 18446744073709551616 ≤ x + y then 16 else 0
/-- A tick. -/
def tick (x : Int) : Prop := 0 ≤ x ∧ x < 18446744073709551616
theorem wrap_add64 {x y : Int} (hx : tick x) (hy : tick y) : IntKind.u64.wrap (x + y) = if 18446744073709551616 ≤ x + y then x + y - 18446744073709551616 else x + y := by
  unfold tick at hx hy
  split
  · simp [IntKind.wrap, IntKind.signed, IntKind.bits]
    omega
  · exact wr_u64 (by omega) (by omega)
theorem f9_ok (x y : Int) (hx : tick x) (hy : tick y) : Fn Try.prog X.G 9 [.p (.i .u64 x), .p (.i .u64 y)] (.tup [.p (.i .u64 (sinceV x y)), .p (.i .i64 (sinceE x y))]) := by
  refine Fn.intro (I := []) hX hm 0 Try.func9 rfl rfl (by kernel_rfl) rfl ?_
  unfold tick at hx hy
  unfold sinceV sinceE
  conv => whnf
  refine iteC (fun h => ?_) (fun h => ?_)
  · rw [if_pos (of_decide_eq_true h), if_pos (of_decide_eq_true h)]
    rfl
  · have h1 := of_decide_eq_false h
    rw [if_neg h1, if_neg h1, ← wr_u64 (n := y - x) (by omega) (by omega)]
    rfl
theorem f10_ok (x y : Int) (hx : tick x) (hy : tick y) : Fn Try.prog X.G 10 [.p (.i .u64 x), .p (.i .u64 y)] (.tup [.p (.i .u64 (sinceV x y)), .p (.i .i64 (sinceE x y))]) := by
  refine Fn.intro (I := []) hX hm 0 Try.func10 rfl rfl (by kernel_rfl) rfl ?_
  unfold tick at hx hy
  unfold sinceV sinceE
  conv => whnf
  refine iteC (fun h => ?_) (fun h => ?_)
  · rw [if_pos (of_decide_eq_true h), if_pos (of_decide_eq_true h)]
    rfl
  · have h1 := of_decide_eq_false h
    rw [if_neg h1, if_neg h1, ← wr_u64 (n := y - x) (by omega) (by omega)]
    rfl
theorem f11_ok (x y : Int) (hx : tick x) (hy : tick y) : Fn Try.prog X.G 11 [.p (.i .u64 x), .p (.i .u64 y)] (.tup [.p (.i .u64 (afterV x y)), .p (.i .i64 (afterE x y))]) := by
  refine Fn.intro (I := []) hX hm 0 Try.func11 rfl rfl (by kernel_rfl) rfl ?_
  have hw := wrap_add64 hx hy
  unfold tick at hx hy
  unfold afterV afterE
  conv => whnf
  by_cases hb : 18446744073709551616 ≤ x + y
  · rw [if_pos hb] at hw
    rw [if_pos hb, if_pos hb]
    refine iteT (decide_eq_true (by rw [hw]; omega)) ?_
    rfl
  · rw [if_neg hb] at hw
    rw [if_neg hb, if_neg hb]
    refine iteF (decide_eq_false (by rw [hw]; omega)) ?_
    exact congrArg (fun z => some (AV.tup [AV.p (.i .u64 z), AV.p (.i .i64 0)])) hw
theorem f12_ok (x y : Int) (hx : tick x) (hy : tick y) : Fn Try.prog X.G 12 [.p (.i .u64 x), .p (.i .u64 y)] (.tup [.p (.i .u64 (afterV x y)), .p (.i .i64 (afterE x y))]) := by
  refine Fn.intro (I := []) hX hm 0 Try.func12 rfl rfl (by kernel_rfl) rfl ?_
  have hw := wrap_add64 hx hy
  unfold tick at hx hy
  have hs : IntKind.u64.wrap (18446744073709551615 - x) = 18446744073709551615 - x := wr_u64 (by omega) (by omega)
  unfold afterV afterE
  conv => whnf
  by_cases hb : 18446744073709551616 ≤ x + y
  · rw [if_pos hb] at hw
    rw [if_pos hb, if_pos hb]
    refine iteT (decide_eq_true (by rw [hs]; omega)) ?_
    rfl
  · rw [if_neg hb] at hw
    rw [if_neg hb, if_neg hb]
    refine iteF (decide_eq_false (by rw [hs]; omega)) ?_
    exact congrArg (fun z => some (AV.tup [AV.p (.i .u64 z), AV.p (.i .i64 0)])) hw
/-- A list whose first elements are one greater. -/
def incL (l : List Int) (z : Nat) : List Int := (List.range l.length).map fun j => if j < z then IntKind.u64.wrap (l.getD j 0 + 1) else l.getD j 0
theorem incL_len (l : List Int) (z : Nat) : (incL l z).length = l.length := by simp [incL]
theorem incL_get {l : List Int} {z j : Nat} (h : j < (incL l z).length) : (incL l z)[j] = if j < z then IntKind.u64.wrap (l.getD j 0 + 1) else l.getD j 0 := by simp [incL]
theorem incL_zero (l : List Int) : incL l 0 = l := by
  refine List.ext_getElem (incL_len _ _) fun j h1 h2 => ?_
  rw [incL_get h1, if_neg (by omega), getD_lt h2]
theorem incL_step {l : List Int} {z : Nat} (h : z < l.length) : (incL l z).set z (IntKind.u64.wrap (l[z] + 1)) = incL l (z + 1) := by
  refine List.ext_getElem (by rw [List.length_set, incL_len, incL_len]) fun j h1 h2 => ?_
  rw [incL_get h2, List.getElem_set]
  split
  · subst_vars
    rw [if_pos (by omega), getD_lt h]
  · rename_i hne
    rw [incL_get (by rw [List.length_set] at h1; exact h1)]
    by_cases hj : j < z
    · rw [if_pos hj, if_pos (by omega)]
    · rw [if_neg hj, if_neg (by omega)]
theorem mergeR_len (a b : List Int) (h : a.length + b.length < 1000000) : (mergeR a b).length < 1000000 := by
  unfold mergeR
  split
  · simp
  · split
    · rw [srt_len]; simp; omega
    · simp
set_option maxHeartbeats 16000000 in
theorem f3_ok (x y : Int) (a b : List Int) (hx : tick x) (hy : tick y) : Fn Try.prog X.G 3 [.p (.i .u64 x), .p (.i .u64 y), qs64 a, qs64 b] (.p (.b true)) := by
  refine Fn.intro (I := []) hX hm 0 Try.func3 rfl rfl (by kernel_rfl) rfl ?_
  have cA := f8_ok a
  have cB := f8_ok b
  cases hA : longB a with
  | true =>
    rw [hA] at cA
    conv => whnf
    refine ⟨_, cA, ?_⟩
    conv => whnf
    refine iteT rfl ?_
    rfl
  | false =>
    rw [hA] at cA
    conv => whnf
    refine ⟨_, cA, ?_⟩
    conv => whnf
    refine iteF rfl ?_
    cases hB : longB b with
    | true =>
      rw [hB] at cB
      conv => whnf
      refine ⟨_, cB, ?_⟩
      conv => whnf
      refine iteT rfl ?_
      rfl
    | false =>
      rw [hB] at cB
      have la : a.length ≤ 300 := longB_len hA
      have lb : b.length ≤ 300 := longB_len hB
      have c1 := f9_ok x y hx hy
      have c2 := f10_ok x y hx hy
      have c3 := f11_ok x y hx hy
      have c4 := f12_ok x y hx hy
      have c5 := f13_ok a b (by omega) (by omega)
      have c6 := f14_ok a b (by omega) (by omega)
      have c7 := f15_ok a a (by omega)
      have c8 := f15_ok b b (by omega)
      rw [decide_eq_true rfl] at c7 c8
      have lR := mergeR_len a b (by omega)
      generalize mergeR a b = R at *
      generalize mergeE a b = E at *
      generalize sinceV x y = v1 at *
      generalize sinceE x y = v2 at *
      generalize afterV x y = v3 at *
      generalize afterE x y = v4 at *
      conv => whnf
      refine ⟨_, cB, ?_⟩
      conv => whnf
      refine iteF rfl ?_
      conv => whnf
      conv => arg 2; repeat (first | rw [capN _ (by simp; omega)] | (whnf; arg 2))
      conv => whnf
      conv => arg 2; repeat (first | rw [capN _ (by simp; omega)] | (whnf; arg 2))
      conv => whnf
      refine ⟨_, c1, ?_⟩
      conv => whnf
      refine ⟨_, c2, ?_⟩
      conv => whnf
      refine ⟨_, c3, ?_⟩
      conv => whnf
      refine ⟨_, c4, ?_⟩
      conv => whnf
      refine ⟨_, c5, ?_⟩
      conv => whnf
      refine ⟨_, c6, ?_⟩
      conv => whnf
      refine LoopJ.intro (I := []) (base' := 5000) hX hm (by kernel_rfl) (σ := Nat) (fun z => [(2, qs64 a), (3, qs64 b), (9, .own 1002), (10, .own 1003), (11, .p (.i .u64 v1)), (12, .p (.i .i64 v2)), (13, .p (.i .u64 v1)), (14, .p (.i .i64 v2)), (15, .p (.i .u64 v3)), (16, .p (.i .i64 v4)), (17, .p (.i .u64 v3)), (18, .p (.i .i64 v4)), (19, .own 1000), (20, .p (.i .i64 E)), (21, .own 1001), (22, .p (.i .i64 E)), (23, .p (.i .i64 z))])
        (fun z => [(1000, .els true qsh64 (qv64 (incL R z))), (1001, .els true qsh64 (qv64 R)), (1002, .els true qsh64 (qv64 a)), (1003, .els true qsh64 (qv64 b))]) (fun z => z ≤ R.length) (fun z => R.length - z) 0 [(1000, 504), (1001, 552), (1002, 256), (1003, 280)]
        (Nat.zero_le _) ⟨nofun, rfl, ⟨rfl, rfl, rfl, rfl, rfl, rfl, rfl, rfl, rfl, rfl, rfl, rfl, rfl, rfl, rfl, rfl, rfl, rfl, rfl, rfl, rfl, rfl, rfl, rfl, rfl, rfl, rfl, rfl, rfl, rfl, rfl, rfl, rfl, rfl, trivial⟩, ⟨by rw [incL_zero]; rfl, rfl, rfl, rfl, rfl, rfl, rfl, rfl, trivial⟩⟩ ?_
      intro z hz
      conv => whnf
      refine iteC (fun h1 => ?_) (fun h1 => ?_)
      · have h1 := of_decide_eq_true h1
        rw [List.length_map, incL_len] at h1
        have hlt : z < R.length := by omega
        have hk : (incL R z)[z]'(by rw [incL_len]; exact hlt) = R[z] := by rw [incL_get, if_neg (by omega), getD_lt hlt]
        have gK := getZ (l := incL R z) (e := (z : Int)) rfl (by rw [incL_len]; exact hlt)
        have nK := nZ (l := incL R z) (e := (z : Int).toNat) (i := z) rfl (by rw [incL_len]; exact hlt)
        have gM := getZ (l := R) (e := (z : Int)) rfl hlt
        have nM := nZ (l := R) (e := (z : Int).toNat) (i := z) rfl hlt
        rw [hk] at gK nK
        conv => whnf
        refine iteT (decide_eq_true (by rw [List.length_map]; omega)) ?_
        conv => whnf
        iterate 4 (try (conv => arg 2; repeat (first | rw [gK] | rw [nK] | rw [gM] | rw [nM] | (whnf; arg 2))
                        conv => whnf))
        refine iteF (by simp) ?_
        conv => whnf
        iterate 4 (try (conv => arg 2; repeat (first | rw [gK] | rw [nK] | (whnf; arg 2))
                        conv => whnf))
        refine ⟨z + 1, [], by omega, by dsimp only; omega, nofun, rfl, ⟨rfl, rfl, rfl, rfl, rfl, rfl, rfl, rfl, rfl, rfl, rfl, rfl, rfl, rfl, rfl, rfl, rfl, rfl, rfl, rfl, rfl, rfl, rfl, rfl, rfl, rfl, rfl, rfl, rfl, rfl, rfl, rfl, incN (by omega), rfl, trivial⟩, ⟨?_, rfl, rfl, rfl, rfl, rfl, rfl, rfl, trivial⟩⟩
        exact congrArg (fun x => some (Blk.els true qsh64 x)) ((setZ _ _ _).trans (congrArg (fun l : List Int => qv64 l) (incL_step hlt)))
      · have h1 := of_decide_eq_false h1
        have hl2 : (((qv64 (incL R z)).length : Nat) : Int) == (((qv64 R).length : Nat) : Int) := by rw [List.length_map, List.length_map, incL_len]; exact beq_self_eq_true _
        repeat' (conv => whnf
                 first
                  | refine ⟨_, c7, ?_⟩
                  | refine ⟨_, c8, ?_⟩
                  | refine iteT hl2 ?_
                  | refine iteT (beq_self_eq_true _) ?_
                  | refine iteT rfl ?_)
        all_goals rfl
end Go.Proofs.Ytgjebgplbkjkhaa.AM
