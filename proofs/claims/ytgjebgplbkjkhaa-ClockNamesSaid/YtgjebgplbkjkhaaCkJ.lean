/- ClockParts: clamping twice, and in parts; the walk of the law. -/
import Derived.Test.YtgjebgplbkjkhaaCkI
namespace Go.Proofs.Ytgjebgplbkjkhaa.AM
open Go Go.Proofs Go.Sort
set_option maxRecDepth 100000

theorem clampL_ext {now : Int} {l m : List Int} (hl : m.length = l.length) (h : ∀ i (h : i < m.length), m[i] = top now (l.take (i + 1))) : clampL now l l.length = m := by
  refine List.ext_getElem (by rw [clampL_len, hl]) fun i h1 h2 => ?_
  rw [clampL_get, h i h2]
/-- Up to a reading of a rising list the greatest is this reading. -/
theorem top_rise {now : Int} {m : List Int} (hr : riseB (now :: m) = true) : ∀ i (h : i < m.length), top now (m.take (i + 1)) = m[i]
  | 0, h => by
    have h0 := (riseB_iff _).1 hr 0 (by simp; omega)
    rw [top_take h]
    show mx now m[0] = m[0]
    unfold mx
    have h0 : now ≤ m[0] := h0
    split <;> omega
  | i + 1, h => by
    have h0 : m[i] ≤ m[i + 1] := (riseB_iff _).1 hr (i + 1) (by simp; omega)
    rw [top_take h, top_rise hr i (by omega)]
    unfold mx
    split <;> omega
theorem clamp_same {now : Int} {m : List Int} (hr : riseB (now :: m) = true) : clampL now m m.length = m := clampL_ext rfl fun i h => (top_rise hr i h).symm
theorem back_none {now : Int} {m : List Int} (hr : riseB (now :: m) = true) : ∀ n, n ≤ m.length → backL now m n = []
  | 0, _ => rfl
  | n + 1, h => by
    rw [back_no (by omega), back_none hr n (by omega)]
    cases n with
    | zero =>
      have h0 : now ≤ m[0] := (riseB_iff _).1 hr 0 (by simp; omega)
      show ¬ m[0] < now
      omega
    | succ n =>
      rw [top_rise hr n (by omega)]
      have h0 : m[n] ≤ m[n + 1] := (riseB_iff _).1 hr (n + 1) (by simp; omega)
      omega
theorem clamp_parts (now : Int) (l : List Int) (k : Nat) (hk : k ≤ l.length) : clampL now l l.length = clampL now (l.take k) (l.take k).length ++ clampL (top now (l.take k)) (l.drop k) (l.drop k).length := by
  have h1 := clampL_len now (l.take k) (l.take k).length
  have h2 := clampL_len (top now (l.take k)) (l.drop k) (l.drop k).length
  have h3 : (l.take k).length = k := by simp; omega
  refine clampL_ext (by rw [List.length_append, h1, h2]; simp; omega) fun i h => ?_
  by_cases hi : i < k
  · rw [List.getElem_append_left (by omega), clampL_get, List.take_take, Nat.min_eq_left (by omega)]
  · rw [List.getElem_append_right (by omega), clampL_get, h1, h3]
    have e : l.take (i + 1) = l.take k ++ (l.drop k).take (i - k + 1) := by rw [← List.take_add]; congr 1; omega
    rw [e]
    show List.foldl mx (List.foldl mx now (l.take k)) _ = List.foldl mx now _
    rw [List.foldl_append]
set_option maxHeartbeats 16000000 in
theorem f6_ok (now : Int) (l : List Int) (at_ : Int) : Fn Try.prog X.G 6 [.p (.i .u64 now), qs64 l, .p (.i .i64 at_)] (.p (.b true)) := by
  refine Fn.intro (I := []) hX hm 0 Try.func6 rfl rfl (by kernel_rfl) rfl ?_
  have ca := f19_ok
  conv => whnf
  refine iteC (fun h0 => ?_) (fun h0 => ?_)
  · conv => whnf
    refine ⟨_, ca, ?_⟩
    conv => whnf
    refine iteT rfl ?_
    rfl
  have h0 := of_decide_eq_false h0
  rw [List.length_map] at h0
  have hl : l.length ≤ 40 := by omega
  conv => whnf
  refine iteC (fun h1 => ?_) (fun h1 => ?_)
  · conv => whnf
    refine ⟨_, ca, ?_⟩
    conv => whnf
    refine iteT rfl ?_
    rfl
  have h1 := of_decide_eq_false h1
  conv => whnf
  refine iteC (fun h2 => ?_) (fun h2 => ?_)
  · conv => whnf
    refine ⟨_, ca, ?_⟩
    conv => whnf
    refine iteT rfl ?_
    rfl
  have h2 := of_decide_eq_false h2
  rw [List.length_map] at h2
  obtain ⟨k, rfl⟩ : ∃ k : Nat, at_ = (k : Int) := ⟨at_.toNat, by omega⟩
  have hk : k ≤ l.length := by omega
  have hr := clamp_rise now l l.length (Nat.le_refl _)
  have lA := clampL_len now l l.length
  have hs := clamp_same hr
  have hb := back_none hr _ (Nat.le_refl _)
  have hP := clamp_parts now l k hk
  have h3 : (l.take k).length = k := by simp; omega
  have h4 : (l.drop k).length = l.length - k := by simp
  have lC := clampL_len now (l.take k) (l.take k).length
  have lD := clampL_len (top now (l.take k)) (l.drop k) (l.drop k).length
  have c1 := f16_ok now l (by omega)
  rw [show clampR now l = clampL now l l.length from if_neg (by omega), show manyE l = 0 from if_neg (by omega)] at c1
  have c2 := f16_ok now (clampL now l l.length) (by omega)
  rw [show clampR now (clampL now l l.length) = _ from if_neg (by omega), show manyE (clampL now l l.length) = 0 from if_neg (by omega), hs] at c2
  have c3 := f16_ok now (l.take k) (by omega)
  rw [show clampR now (l.take k) = _ from if_neg (by omega), show manyE (l.take k) = 0 from if_neg (by omega)] at c3
  have c4 := f16_ok (top now (l.take k)) (l.drop k) (by omega)
  rw [show clampR (top now (l.take k)) (l.drop k) = _ from if_neg (by omega), show manyE (l.drop k) = 0 from if_neg (by omega)] at c4
  have c5 := f17_ok now (clampL now l l.length) (by omega)
  rw [show backR now (clampL now l l.length) = _ from if_neg (by omega), show manyE (clampL now l l.length) = 0 from if_neg (by omega), hb] at c5
  have c6 := f15_ok (clampL now l l.length) (clampL now l l.length) (by omega)
  rw [decide_eq_true rfl] at c6
  have c7 := f20_ok (now :: l) (by simp; omega)
  have c8 := f15_ok (clampL now l l.length) l (by omega)
  have c9 : riseB (now :: l) = true → decide (clampL now l l.length = l) = true := fun h => decide_eq_true (clamp_same h)
  have hlast : 0 < k → (clampL now (l.take k) (l.take k).length).getD (k - 1) 0 = top now (l.take k) := fun h => by
    rw [getD_lt (by omega), clampL_get, show k - 1 + 1 = k by omega, List.take_take, Nat.min_self]
  generalize clampL now l l.length = A at *
  generalize hC : clampL now (l.take k) (l.take k).length = C at *
  generalize hD : clampL (top now (l.take k)) (l.drop k) (l.drop k).length = D at *
  have d1 : decide ((0 : Int) ≤ (k : Int)) = true := decide_eq_true (by omega)
  have d2 : decide ((k : Int) ≤ ((qv64 l).length : Int)) = true := decide_eq_true (by rw [List.length_map]; omega)
  rw [show qs64 (l.take k) = .ro qsh64 (((qv64 l).drop 0).take (k : Int).toNat) from by rw [Int.toNat_natCast, List.drop_zero, ← List.map_take]] at c3
  rw [show qs64 (l.drop k) = .ro qsh64 (((qv64 l).drop (k : Int).toNat).take ((qv64 l).length - (k : Int).toNat)) from by rw [Int.toNat_natCast, ← List.map_drop, List.length_map, List.take_of_length_le (by simp)]] at c4
  have c10 : Fn Try.prog X.G 15 [qs64 A, .ro qsh64 (qv64 C ++ qv64 D)] (.p (.b true)) := by
    rw [show AV.ro qsh64 (qv64 C ++ qv64 D) = qs64 A from by rw [hP]; exact congrArg (fun l => AV.ro qsh64 l) (qv_app C D).symm]
    exact c6
  conv => whnf
  refine ⟨_, c1, ?_⟩
  conv => whnf
  refine ⟨_, c2, ?_⟩
  conv => whnf
  iterate 2 (try (conv => arg 2; repeat (first | rw [d1] | rw [d2] | (whnf; arg 2))
                  conv => whnf))
  refine ⟨_, c3, ?_⟩
  conv => whnf
  refine iteC (fun h5 => ?_) (fun h5 => ?_)
  · have h5 := of_decide_eq_true h5
    rw [List.length_map] at h5
    have eL : IntKind.i64.wrap (((qv64 C).length : Int) - 1) = ((k - 1 : Nat) : Int) := by rw [List.length_map, wr_i64 (by omega) (by omega)]; omega
    have gC := getZ (l := C) eL (by omega)
    have nC := nZ (l := C) (e := (IntKind.i64.wrap (((qv64 C).length : Int) - 1)).toNat) (i := k - 1) (by rw [eL]; rfl) (by omega)
    rw [← getD_lt (by omega), hlast (by omega)] at gC nC
    conv => whnf
    iterate 4 (try (conv => arg 2; repeat (first | rw [gC] | rw [nC] | rw [d1] | rw [d2] | (whnf; arg 2))
                    conv => whnf))
    refine ⟨_, c4, ?_⟩
    conv => whnf
    refine iteF rfl ?_
    conv => whnf
    refine iteF rfl ?_
    conv => whnf
    refine iteF rfl ?_
    conv => whnf
    refine iteF rfl ?_
    conv => whnf
    refine ⟨_, c6, ?_⟩
    conv => whnf
    refine iteT rfl ?_
    conv => whnf
    conv => arg 2; repeat (first | rw [capN _ (by simp; omega)] | (whnf; arg 2))
    conv => whnf
    conv => arg 2; repeat (first | rw [capN _ (by simp; omega)] | (whnf; arg 2))
    conv => whnf
    refine ⟨_, c10, ?_⟩
    conv => whnf
    refine iteT rfl ?_
    conv => whnf
    refine ⟨_, c5, ?_⟩
    conv => whnf
    refine iteT rfl ?_
    conv => whnf
    refine iteT rfl ?_
    conv => whnf
    conv => arg 2; repeat (first | rw [capN _ (by simp; omega)] | (whnf; arg 2))
    conv => whnf
    refine ⟨_, c7, ?_⟩
    conv => whnf
    refine iteC (fun h6 => ?_) (fun h6 => ?_)
    · rw [c9 h6] at c8
      conv => whnf
      refine ⟨_, c8, ?_⟩
      conv => whnf
      refine iteT rfl ?_
      conv => whnf
      refine ⟨_, ca, ?_⟩
      conv => whnf
      refine iteT rfl ?_
      rfl
    · conv => whnf
      refine ⟨_, ca, ?_⟩
      conv => whnf
      refine iteT rfl ?_
      rfl
  · have h5 := of_decide_eq_false h5
    rw [List.length_map] at h5
    have hk0 : k = 0 := by omega
    rw [show top now (l.take k) = now from by rw [hk0]; rfl] at c4
    conv => whnf
    iterate 2 (try (conv => arg 2; repeat (first | rw [d1] | rw [d2] | (whnf; arg 2))
                    conv => whnf))
    refine ⟨_, c4, ?_⟩
    conv => whnf
    refine iteF rfl ?_
    conv => whnf
    refine iteF rfl ?_
    conv => whnf
    refine iteF rfl ?_
    conv => whnf
    refine iteF rfl ?_
    conv => whnf
    refine ⟨_, c6, ?_⟩
    conv => whnf
    refine iteT rfl ?_
    conv => whnf
    conv => arg 2; repeat (first | rw [capN _ (by simp; omega)] | (whnf; arg 2))
    conv => whnf
    conv => arg 2; repeat (first | rw [capN _ (by simp; omega)] | (whnf; arg 2))
    conv => whnf
    refine ⟨_, c10, ?_⟩
    conv => whnf
    refine iteT rfl ?_
    conv => whnf
    refine ⟨_, c5, ?_⟩
    conv => whnf
    refine iteT rfl ?_
    conv => whnf
    refine iteT rfl ?_
    conv => whnf
    conv => arg 2; repeat (first | rw [capN _ (by simp; omega)] | (whnf; arg 2))
    conv => whnf
    refine ⟨_, c7, ?_⟩
    conv => whnf
    refine iteC (fun h6 => ?_) (fun h6 => ?_)
    · rw [c9 h6] at c8
      conv => whnf
      refine ⟨_, c8, ?_⟩
      conv => whnf
      refine iteT rfl ?_
      conv => whnf
      refine ⟨_, ca, ?_⟩
      conv => whnf
      refine iteT rfl ?_
      rfl
    · conv => whnf
      refine ⟨_, ca, ?_⟩
      conv => whnf
      refine iteT rfl ?_
      rfl
end Go.Proofs.Ytgjebgplbkjkhaa.AM
