/- Sha: the library's functions that join and copy bytes; bytes compared. -/
import Derived.Test.YtipmkjfbdflneaaDoorShaC
namespace Go.Proofs.YtipmkjfbdflneaaDoor.AM
open Go Go.Proofs
set_option maxRecDepth 100000

theorem f74_ok (b : List Int) (hb : b.length ≤ 1000000) : Fn Tryd.prog X.G 74 [bvs b] (bvs b) := by
  refine Fn.intro (I := []) hX hm 0 Tryd.func74 rfl rfl (by kernel_rfl) rfl ?_
  conv => whnf
  intro y hy
  cases y with
  | true =>
    have hy := hy rfl
    have : b = [] := by simpa using hy
    subst this
    conv => whnf
    refine iteT rfl ?_
    rfl
  | false =>
    conv => whnf
    refine iteF rfl ?_
    conv => whnf
    conv => arg 2; repeat (first | rw [capN _ (by simp; omega)] | (whnf; arg 2))
    conv => whnf
    rfl
set_option maxHeartbeats 4000000 in
theorem f98_ok (a b : List Int) (ha : a.length ≤ 1000000) (hb : b.length ≤ 1000000) : Fn Tryd.prog X.G 98 [.roA [bvs a, bvs b]] (bvs (a ++ b)) := by
  rw [show bvs (a ++ b) = AV.ro ush (bv a ++ bv b) from by rw [← bv_app]]
  refine Fn.intro (I := [ 102 ]) hX hm 0 Tryd.func98 rfl rfl (by kernel_rfl) rfl ?_
  have e0 : IntKind.i64.wrap (0 + ((bv a).length : Int)) = (a.length : Int) := by rw [List.length_map, wr_i64 (by omega) (by omega)]; omega
  have e1 : IntKind.i64.wrap (IntKind.i64.wrap (0 + ((bv a).length : Int)) + ((bv b).length : Int)) = ((a.length + b.length : Nat) : Int) := by rw [e0, List.length_map, wr_i64 (by omega) (by omega)]; omega
  conv => whnf
  refine LoopJ.unroll (I := [ 102 ]) (base' := 1000) hX hm (by kernel_rfl) ?_
  conv => whnf
  refine iteT rfl ?_
  conv => whnf
  refine iteF (by rw [e0]; exact decide_eq_false (by omega)) ?_
  conv => whnf
  refine LoopJ.unroll (I := [ 102 ]) (base' := 2000) hX hm (by kernel_rfl) ?_
  conv => whnf
  refine iteT rfl ?_
  conv => whnf
  refine iteF (by rw [e1]; exact decide_eq_false (by omega)) ?_
  conv => whnf
  refine LoopJ.unroll (I := [ 102 ]) (base' := 3000) hX hm (by kernel_rfl) ?_
  conv => whnf
  refine iteF rfl ?_
  conv => whnf
  generalize IntKind.i64.wrap (IntKind.i64.wrap (0 + ((bv a).length : Int)) + ((bv b).length : Int)) = N at *
  subst e1
  have e3 : IntKind.i64.wrap (((a.length + b.length : Nat) : Int) - IntKind.i64.wrap (((0 : Nat) : Int) - ((0 : Nat) : Int))) = ((a.length + b.length : Nat) : Int) := by
    rw [show IntKind.i64.wrap (((0 : Nat) : Int) - ((0 : Nat) : Int)) = 0 from rfl, wr_i64 (by omega) (by omega)]
    omega
  have z1 : decide (0 ≤ IntKind.i64.wrap (((a.length + b.length : Nat) : Int) - IntKind.i64.wrap (((0 : Nat) : Int) - ((0 : Nat) : Int)))) = true := by rw [e3]; exact decide_eq_true (by omega)
  have z2 : decide (IntKind.i64.wrap (((a.length + b.length : Nat) : Int) - IntKind.i64.wrap (((0 : Nat) : Int) - ((0 : Nat) : Int))) * ((1 : Nat) : Int) ≤ 140737488351232) = true := by rw [e3]; exact decide_eq_true (by omega)
  refine InlS.intro (I := []) hX hm 4000 Tryd.func102 rfl rfl (by kernel_rfl) rfl ?_
  conv => whnf
  refine iteF (decide_eq_false (by omega)) ?_
  conv => whnf
  refine iteC (fun h => ?_) (fun h => ?_)
  · conv => whnf
    conv => arg 2; repeat (first | rw [z1] | rw [z2] | (whnf; arg 2))
    conv => whnf
    conv => arg 2; repeat (first | rw [z1] | rw [z2] | (whnf; arg 2))
    conv => whnf
    refine LoopJ.unroll (I := []) (base' := 5000) hX hm (by kernel_rfl) ?_
    conv => whnf
    refine iteT rfl ?_
    conv => whnf
    conv => arg 2; repeat (first | rw [capN _ (by simp; omega)] | (whnf; arg 2))
    conv => whnf
    refine LoopJ.unroll (I := []) (base' := 6000) hX hm (by kernel_rfl) ?_
    conv => whnf
    refine iteT rfl ?_
    conv => whnf
    conv => arg 2; repeat (first | rw [capN _ (by simp; omega)] | (whnf; arg 2))
    conv => whnf
    refine LoopJ.unroll (I := []) (base' := 7000) hX hm (by kernel_rfl) ?_
    conv => whnf
    refine iteF rfl ?_
    rfl
  · conv => whnf
    refine LoopJ.unroll (I := []) (base' := 5000) hX hm (by kernel_rfl) ?_
    conv => whnf
    refine iteT rfl ?_
    conv => whnf
    conv => arg 2; repeat (first | rw [capN _ (by simp; omega)] | (whnf; arg 2))
    conv => whnf
    refine LoopJ.unroll (I := []) (base' := 6000) hX hm (by kernel_rfl) ?_
    conv => whnf
    refine iteT rfl ?_
    conv => whnf
    conv => arg 2; repeat (first | rw [capN _ (by simp; omega)] | (whnf; arg 2))
    conv => whnf
    refine LoopJ.unroll (I := []) (base' := 7000) hX hm (by kernel_rfl) ?_
    conv => whnf
    refine iteF rfl ?_
    rfl
theorem f38_ok (a b : List Int) (hl : a.length < 9223372036854775807) : Fn Tryd.prog X.G 38 [bvs a, bvs b] (.p (.b (decide (a = b)))) := by
  refine Fn.intro (I := []) hX hm 0 Tryd.func38 rfl rfl (by kernel_rfl) rfl ?_
  conv => whnf
  refine iteC (fun h => ?_) (fun h => ?_)
  · rw [decide_eq_false (by rintro rfl; simp at h)]
    rfl
  have h : a.length = b.length := Int.ofNat.inj (by simpa using h)
  conv => whnf
  refine LoopJ.intro (I := []) (base' := 0) hX hm (by kernel_rfl) (σ := Nat) (fun i => [(0, bvs a), (1, bvs b), (5, .p (.i .i64 i))]) (fun _ => []) (fun i => i ≤ a.length ∧ ∀ j (h1 : j < a.length) (h2 : j < b.length), j < i → a[j] = b[j]) (fun i => a.length - i) 0 []
    ⟨Nat.zero_le _, by intro j _ _ h; omega⟩ ⟨nofun, rfl, ⟨rfl, rfl, rfl, rfl, rfl, rfl, trivial⟩, trivial⟩ ?_
  intro i hi
  conv => whnf
  refine iteC (fun h1 => ?_) (fun h1 => ?_)
  · have h1 := of_decide_eq_true h1
    rw [List.length_map] at h1
    have hlt : i < a.length := by omega
    have hlt2 : i < b.length := by omega
    have ga := getM (f := PV.i .u8) hlt
    have gb := getM (f := PV.i .u8) hlt2
    conv => whnf
    conv => arg 2; repeat (first | rw [ga] | (whnf; arg 2))
    conv => whnf
    conv => arg 2; repeat (first | rw [gb] | (whnf; arg 2))
    conv => whnf
    refine iteC (fun h2 => ?_) (fun h2 => ?_)
    · have h2 : a[i] ≠ b[i] := by simpa using h2
      rw [decide_eq_false (by rintro rfl; exact h2 rfl)]
      rfl
    · have h2 : a[i] = b[i] := by simpa using h2
      conv => whnf
      refine ⟨i + 1, [], ⟨by omega, fun j g1 g2 hj => ?_⟩, by dsimp only; omega, nofun, rfl, ⟨rfl, rfl, rfl, rfl, incN (by omega), rfl, trivial⟩, trivial⟩
      by_cases hji : j = i
      · subst hji; exact h2
      · exact hi.2 j g1 g2 (by omega)
  · have h1 := of_decide_eq_false h1
    rw [List.length_map] at h1
    conv => whnf
    rw [decide_eq_true (List.ext_getElem h fun j g1 g2 => hi.2 j g1 g2 (by omega))]
    rfl

end Go.Proofs.YtipmkjfbdflneaaDoor.AM
