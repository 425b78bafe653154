/- The library's sorted test, joining, sorting; merged ticks. -/
import Derived.Test.YtgjebgplbkjkhaaSrtK
namespace Go.Proofs.Ytgjebgplbkjkhaa.AM
open Go Go.Proofs Go.Sort
set_option maxRecDepth 100000

theorem f25_ok (h0 : Heap) (hcl : Clo h0) (hf : find h0 1056 = none) (d : Array Int) (hs : d.size < 65536) (K : AV → Heap → Prop) (hK : K (.tup []) ((208, qb (Sort.sort ltInt d)) :: h0)) :
    InlS Try.prog X 25 [.own 208] ((208, qb d) :: h0) K := by
  refine InlS.intro (I := [ 30 ]) hX hm 1000 Try.func25 rfl rfl (by kernel_rfl) rfl ?_
  have e0 : IntKind.u64.wrap (((qv64 d.toList).length : Nat) : Int) = ((d.size : Nat) : Int) := by rw [List.length_map, Array.length_toList]; exact wr_u64 (by omega) (by omega)
  have c1 : Fn Try.prog X.G 31 [.p (.i .u64 (IntKind.u64.wrap (((qv64 d.toList).length : Nat) : Int)))] (.p (.i .i64 (bitsLen d.size))) := by
    rw [e0]
    exact f31_ok d.size hs
  have h2 := two_small hs
  conv => whnf
  refine ⟨_, c1, ?_⟩
  conv => whnf
  refine f30_ok h0 hcl hf (d.size + 1) d 0 d.size (bitsLen d.size) rfl (by rw [List.length_map, Array.length_toList]) rfl (by omega) (Nat.zero_le _) (Nat.le_refl _) hs (by omega) (Or.inl rfl) _ ?_
  conv => whnf
  exact hK
/-- Does a list rise. -/
def riseB : List Int → Bool
  | a :: b :: r => decide (a ≤ b) && riseB (b :: r)
  | _ => true
theorem riseB_iff : ∀ l : List Int, riseB l = true ↔ ∀ i (h : i + 1 < l.length), l[i] ≤ l[i + 1]
  | [] => by simp [riseB]
  | [a] => by simp [riseB]
  | a :: b :: r => by
    rw [riseB, Bool.and_eq_true, decide_eq_true_eq, riseB_iff (b :: r)]
    constructor
    · rintro ⟨h1, h2⟩ i h
      cases i with
      | zero => exact h1
      | succ i => exact h2 i (by simp at h ⊢; omega)
    · intro h
      exact ⟨h 0 (by simp), fun i hi => h (i + 1) (by simp at hi ⊢; omega)⟩
theorem riseB_no {l : List Int} {i : Nat} (h : i + 1 < l.length) (hn : ¬ l[i] ≤ l[i + 1]) : riseB l = false := by
  cases hb : riseB l with
  | false => rfl
  | true => exact absurd ((riseB_iff l).1 hb i h) hn
theorem getZ {l : List Int} {e : Int} {i : Nat} (he : e = i) (h : i < l.length) : getI (qv64 l) e = some (.i .u64 l[i]) := by
  subst he
  exact getM h
set_option maxHeartbeats 4000000 in
theorem f23_ok (l : List Int) (hl : l.length < 1000000) : Fn Try.prog X.G 23 [qs64 l] (.p (.b (riseB l))) := by
  refine Fn.intro (I := []) hX hm 0 Try.func23 rfl rfl (by kernel_rfl) rfl ?_
  conv => whnf
  refine LoopJ.intro (I := []) (base' := 0) hX hm (by kernel_rfl) (σ := Nat) (fun k => [(0, qs64 l), (3, .p (.i .i64 ((k : Int) - 1)))]) (fun _ => []) (fun k => k ≤ l.length ∧ ∀ j (h : j + 1 < l.length), k ≤ j + 1 → l[j] ≤ l[j + 1]) (fun k => k) l.length []
    ⟨Nat.le_refl _, fun j h hj => by omega⟩ ⟨nofun, rfl, ⟨rfl, rfl, by rw [List.length_map]; exact congrArg (fun x => AV.p (.i .i64 x)) (wr_i64 (by omega) (by omega)), rfl, trivial⟩, trivial⟩ ?_
  intro k ⟨hk, hI⟩
  conv => whnf
  refine iteC (fun h1 => ?_) (fun h1 => ?_)
  · have h1 := of_decide_eq_true h1
    have e1 : IntKind.i64.wrap ((k : Int) - 1 - 1) = ((k - 2 : Nat) : Int) := by rw [wr_i64 (by omega) (by omega)]; omega
    have g1 := getZ (l := l) (e := (k : Int) - 1) (i := k - 2 + 1) (by omega) (by omega)
    have g2 := getZ (l := l) e1 (by omega)
    have c1 := f28_ok l[k - 2 + 1] l[k - 2]
    conv => whnf
    iterate 2 (try (conv => arg 2; repeat (first | rw [g1] | rw [g2] | (whnf; arg 2))
                    conv => whnf))
    refine ⟨_, c1, ?_⟩
    conv => whnf
    refine iteC (fun h2 => ?_) (fun h2 => ?_)
    · have h2 := of_decide_eq_true h2
      rw [riseB_no (l := l) (i := k - 2) (by omega) (by omega)]
      rfl
    · have h2 := of_decide_eq_false h2
      conv => whnf
      refine ⟨k - 1, [], ⟨by omega, fun j h hj => ?_⟩, by dsimp only; omega, nofun, rfl, ⟨rfl, rfl, avI (by rw [wr_i64 (by omega) (by omega)]; omega), rfl, trivial⟩, trivial⟩
      by_cases hjk : k ≤ j + 1
      · exact hI j h hjk
      · obtain rfl : j = k - 2 := by omega
        omega
  · have h1 := of_decide_eq_false h1
    rw [(riseB_iff l).2 fun i h => hI i h (by omega)]
    rfl
set_option maxHeartbeats 4000000 in
theorem f20_ok (l : List Int) (hl : l.length < 1000000) : Fn Try.prog X.G 20 [qs64 l] (.p (.b (riseB l))) := by
  refine Fn.intro (I := []) hX hm 0 Try.func20 rfl rfl (by kernel_rfl) rfl ?_
  conv => whnf
  refine LoopJ.intro (I := []) (base' := 0) hX hm (by kernel_rfl) (σ := Nat) (fun k => [(0, qs64 l), (3, .p (.i .i64 ((k + 1 : Nat) : Int)))]) (fun _ => []) (fun k => (k ≤ l.length) ∧ ∀ j (h : j + 1 < l.length), j < k → l[j] ≤ l[j + 1]) (fun k => l.length - k) 0 []
    ⟨Nat.zero_le _, fun j h hj => by omega⟩ ⟨nofun, rfl, ⟨rfl, rfl, rfl, rfl, trivial⟩, trivial⟩ ?_
  intro k ⟨hk, hI⟩
  conv => whnf
  refine iteC (fun h1 => ?_) (fun h1 => ?_)
  · have h1 := of_decide_eq_true h1
    rw [List.length_map] at h1
    have e1 : IntKind.i64.wrap (((k + 1 : Nat) : Int) - 1) = ((k : Nat) : Int) := by rw [wr_i64 (by omega) (by omega)]; omega
    have g1 := getZ (l := l) (e := ((k + 1 : Nat) : Int)) (i := k + 1) rfl (by omega)
    have g2 := getZ (l := l) e1 (by omega)
    conv => whnf
    iterate 2 (try (conv => arg 2; repeat (first | rw [g1] | rw [g2] | (whnf; arg 2))
                    conv => whnf))
    refine iteC (fun h2 => ?_) (fun h2 => ?_)
    · have h2 := of_decide_eq_true h2
      rw [riseB_no (l := l) (i := k) (by omega) (by omega)]
      rfl
    · have h2 := of_decide_eq_false h2
      conv => whnf
      refine ⟨k + 1, [], ⟨by omega, fun j h hj => ?_⟩, by dsimp only; omega, nofun, rfl, ⟨rfl, rfl, avI (incI (by omega)), rfl, trivial⟩, trivial⟩
      by_cases hjk : j < k
      · exact hI j h hjk
      · obtain rfl : j = k := by omega
        omega
  · have h1 := of_decide_eq_false h1
    rw [List.length_map] at h1
    rw [(riseB_iff l).2 fun i h => hI i h (by omega)]
    rfl
set_option maxHeartbeats 4000000 in
theorem f24_ok (a b : List Int) (ha : a.length ≤ 1000000) (hb : b.length ≤ 1000000) : Fn Try.prog X.G 24 [.roA [qs64 a, qs64 b]] (qs64 (a ++ b)) := by
  rw [show qs64 (a ++ b) = AV.ro qsh64 (qv64 a ++ qv64 b) from by rw [← qv_app]]
  refine Fn.intro (I := [ 29 ]) hX hm 0 Try.func24 rfl rfl (by kernel_rfl) rfl ?_
  have e0 : IntKind.i64.wrap (0 + ((qv64 a).length : Int)) = (a.length : Int) := by rw [List.length_map, wr_i64 (by omega) (by omega)]; omega
  have e1 : IntKind.i64.wrap (IntKind.i64.wrap (0 + ((qv64 a).length : Int)) + ((qv64 b).length : Int)) = ((a.length + b.length : Nat) : Int) := by rw [e0, List.length_map, wr_i64 (by omega) (by omega)]; omega
  conv => whnf
  refine LoopJ.unroll (I := [ 29 ]) (base' := 1000) hX hm (by kernel_rfl) ?_
  conv => whnf
  refine iteT rfl ?_
  conv => whnf
  refine iteF (by rw [e0]; exact decide_eq_false (by omega)) ?_
  conv => whnf
  refine LoopJ.unroll (I := [ 29 ]) (base' := 2000) hX hm (by kernel_rfl) ?_
  conv => whnf
  refine iteT rfl ?_
  conv => whnf
  refine iteF (by rw [e1]; exact decide_eq_false (by omega)) ?_
  conv => whnf
  refine LoopJ.unroll (I := [ 29 ]) (base' := 3000) hX hm (by kernel_rfl) ?_
  conv => whnf
  refine iteF rfl ?_
  conv => whnf
  generalize IntKind.i64.wrap (IntKind.i64.wrap (0 + ((qv64 a).length : Int)) + ((qv64 b).length : Int)) = N at *
  subst e1
  have e3 : IntKind.i64.wrap (((a.length + b.length : Nat) : Int) - IntKind.i64.wrap (((0 : Nat) : Int) - ((0 : Nat) : Int))) = ((a.length + b.length : Nat) : Int) := by
    rw [show IntKind.i64.wrap (((0 : Nat) : Int) - ((0 : Nat) : Int)) = 0 from rfl, wr_i64 (by omega) (by omega)]
    omega
  have z1 : decide (0 ≤ IntKind.i64.wrap (((a.length + b.length : Nat) : Int) - IntKind.i64.wrap (((0 : Nat) : Int) - ((0 : Nat) : Int)))) = true := by rw [e3]; exact decide_eq_true (by omega)
  have z2 : decide (IntKind.i64.wrap (((a.length + b.length : Nat) : Int) - IntKind.i64.wrap (((0 : Nat) : Int) - ((0 : Nat) : Int))) * ((8 : Nat) : Int) ≤ 140737488351232) = true := by rw [e3]; exact decide_eq_true (by omega)
  refine InlS.intro (I := []) hX hm 4000 Try.func29 rfl rfl (by kernel_rfl) rfl ?_
  conv => whnf
  refine iteF (decide_eq_false (by omega)) ?_
  conv => whnf
  refine iteC (fun h => ?_) (fun h => ?_)
  · conv => whnf
    conv => arg 2; repeat (first | rw [z1] | rw [z2] | (whnf; arg 2))
    conv => whnf
    conv => arg 2; repeat (first | rw [z1] | rw [z2] | (whnf; arg 2))
    conv => whnf
    refine LoopJ.unroll (I := []) (base' := 5000) hX hm (by kernel_rfl) ?_
    conv => whnf
    refine iteT rfl ?_
    conv => whnf
    conv => arg 2; repeat (first | rw [capN _ (by simp; omega)] | (whnf; arg 2))
    conv => whnf
    refine LoopJ.unroll (I := []) (base' := 6000) hX hm (by kernel_rfl) ?_
    conv => whnf
    refine iteT rfl ?_
    conv => whnf
    conv => arg 2; repeat (first | rw [capN _ (by simp; omega)] | (whnf; arg 2))
    conv => whnf
    refine LoopJ.unroll (I := []) (base' := 7000) hX hm (by kernel_rfl) ?_
    conv => whnf
    refine iteF rfl ?_
    rfl
  · conv => whnf
    refine LoopJ.unroll (I := []) (base' := 5000) hX hm (by kernel_rfl) ?_
    conv => whnf
    refine iteT rfl ?_
    conv => whnf
    conv => arg 2; repeat (first | rw [capN _ (by simp; omega)] | (whnf; arg 2))
    conv => whnf
    refine LoopJ.unroll (I := []) (base' := 6000) hX hm (by kernel_rfl) ?_
    conv => whnf
    refine iteT rfl ?_
    conv => whnf
    conv => arg 2; repeat (first | rw [capN _ (by simp; omega)] | (whnf; arg 2))
    conv => whnf
    refine LoopJ.unroll (I := []) (base' := 7000) hX hm (by kernel_rfl) ?_
    conv => whnf
    refine iteF rfl ?_
    rfl
end Go.Proofs.Ytgjebgplbkjkhaa.AM
