/- CostTotals: the walk of the law. -/
import Derived.Test.YtmngcmfcbfkimaaCostB
namespace Go.Proofs.Ytmngcmfcbfkimaa.AM
open Go Go.Proofs
set_option maxRecDepth 100000
theorem sameL_refl8 (l : List Int) : PV.sameL (l.map (.i .u8)) (l.map (.i .u8)) = true := by
  induction l with
  | nil => rfl
  | cons x l ih => simp [PV.sameL, PV.same, ih]
theorem same_q (q : Q) : PV.same (qv q) (qv q) = true := by
  simp [PV.same, PV.sameL, sameL_refl8]
theorem f5_ok (l : List R) (r : List Q) : Fn Try.prog X.G 5 [rvs l, qvs r] (.p (.b true)) := by
  refine Fn.intro (I := []) hX hm 0 Try.func5 rfl rfl (by kernel_rfl) rfl ?_
  conv => whnf
  refine iteC (fun h => ?_) (fun h => ?_)
  · rfl
  conv => whnf
  refine iteC (fun h2 => ?_) (fun h2 => ?_)
  · rfl
  have h2 := of_decide_eq_false h2
  rw [List.length_map] at h2
  conv => whnf
  conv => arg 2; repeat (first | rw [capT _ (by simp; omega)] | (whnf; arg 2))
  conv => whnf
  have c30 := f30_ok l r
  have c31 := f31_ok l r
  unfold totA at c30 c31
  have same : ∀ q : Q, (!PV.same (qv q) (qv q)) = false := fun q => by rw [same_q]; rfl
  by_cases he : errQ l r ≠ 0
  · rw [if_pos he] at c30 c31
    refine ⟨_, c30, ?_⟩
    conv => whnf
    refine ⟨_, c31, ?_⟩
    conv => whnf
    refine LoopJ.intro (I := []) (base' := 0) hX hm (by kernel_rfl) (σ := Nat) (fun i => [(1, qvs r), (5, .own 168), (6, .own 200), (7, .p (.i .i64 (errQ l r))), (8, .own 248), (9, .p (.i .i64 (errQ l r))), (10, .p (.i .i64 i))])
      (fun _ => [(168, .els true qsh (r.map qv)), (200, .els true .one []), (248, .els true .one [])]) (fun i => i ≤ r.length) (fun i => r.length - i) 0 []
      (by omega) ⟨nofun, rfl, ⟨rfl, rfl, rfl, rfl, rfl, rfl, rfl, rfl, rfl, rfl, rfl, rfl, rfl, rfl, trivial⟩, ⟨rfl, rfl, rfl, rfl, rfl, rfl, trivial⟩⟩ ?_
    intro i hi
    conv => whnf
    refine iteC (fun h4 => ?_) (fun h4 => ?_)
    · have h4 := of_decide_eq_true h4
      rw [List.length_map] at h4
      have hlt : i < r.length := by omega
      have hg := getI_map (f := qv) hlt
      have hn : (r.map qv)[(i : Int).toNat]? = some (qv r[i]) := by simp [hlt]
      conv => whnf
      conv => arg 2; repeat (first | rw [hg] | rw [hn] | (whnf; arg 2))
      conv => whnf
      conv => arg 2; repeat (first | rw [hg] | rw [hn] | (whnf; arg 2))
      conv => whnf
      conv => arg 2; repeat (first | rw [hg] | rw [hn] | (whnf; arg 2))
      conv => whnf
      refine iteF (same r[i]) ?_
      conv => whnf
      exact ⟨i + 1, [], by omega, by dsimp only; omega, nofun, rfl, ⟨rfl, rfl, rfl, rfl, rfl, rfl, rfl, rfl, rfl, rfl, rfl, rfl, inc_eq hlt (by omega), rfl, trivial⟩, ⟨rfl, rfl, rfl, rfl, rfl, rfl, trivial⟩⟩
    · conv => whnf
      refine ⟨_, f32_nil, ?_⟩
      conv => whnf
      refine iteT rfl ?_
      conv => whnf
      refine iteT (beq_self_eq_true _) ?_
      rfl
  · rw [if_neg he] at c30 c31
    have he : errQ l r = 0 := by simpa using he
    rw [he] at c30 c31
    generalize hls : linesL 10 (r.map (priceQ l)) = ls at c30 c31
    have hlen : ls.length ≤ 10 := by rw [← hls]; exact linesL_len _ _
    refine ⟨_, c30, ?_⟩
    conv => whnf
    refine ⟨_, c31, ?_⟩
    conv => whnf
    refine LoopJ.intro (I := []) (base' := 0) hX hm (by kernel_rfl) (σ := Nat) (fun i => [(1, qvs r), (5, .own 168), (6, .own 200), (7, .p (.i .i64 0)), (8, .own 248), (9, .p (.i .i64 0)), (10, .p (.i .i64 i))])
      (fun _ => [(168, .els true qsh (r.map qv)), (200, .els true lnsh (ls.map lv)), (248, .els true lnsh (ls.map lv))]) (fun i => i ≤ r.length) (fun i => r.length - i) 0 []
      (by omega) ⟨nofun, rfl, ⟨rfl, rfl, rfl, rfl, rfl, rfl, rfl, rfl, rfl, rfl, rfl, rfl, rfl, rfl, trivial⟩, ⟨rfl, rfl, rfl, rfl, rfl, rfl, trivial⟩⟩ ?_
    intro i hi
    conv => whnf
    refine iteC (fun h4 => ?_) (fun h4 => ?_)
    · have h4 := of_decide_eq_true h4
      rw [List.length_map] at h4
      have hlt : i < r.length := by omega
      have hg := getI_map (f := qv) hlt
      have hn : (r.map qv)[(i : Int).toNat]? = some (qv r[i]) := by simp [hlt]
      conv => whnf
      conv => arg 2; repeat (first | rw [hg] | rw [hn] | (whnf; arg 2))
      conv => whnf
      conv => arg 2; repeat (first | rw [hg] | rw [hn] | (whnf; arg 2))
      conv => whnf
      conv => arg 2; repeat (first | rw [hg] | rw [hn] | (whnf; arg 2))
      conv => whnf
      refine iteF (same r[i]) ?_
      conv => whnf
      exact ⟨i + 1, [], by omega, by dsimp only; omega, nofun, rfl, ⟨rfl, rfl, rfl, rfl, rfl, rfl, rfl, rfl, rfl, rfl, rfl, rfl, inc_eq hlt (by omega), rfl, trivial⟩, ⟨rfl, rfl, rfl, rfl, rfl, rfl, trivial⟩⟩
    · conv => whnf
      have c32 := f32_ok ls ls (by omega)
      rw [decide_eq_true rfl] at c32
      refine ⟨_, c32, ?_⟩
      conv => whnf
      refine iteT rfl ?_
      conv => whnf
      refine iteT rfl ?_
      rfl
end Go.Proofs.Ytmngcmfcbfkimaa.AM
