/- Tokens: TokenBack, TokenNames: the walks of the laws. -/
import Derived.Test.YtkcnchlahhlkfaaDoorTkC
namespace Go.Proofs.YtkcnchlahhlkfaaDoor.AM
open Go Go.Proofs
set_option maxRecDepth 100000

theorem readT_back {t : Tk} (h : t.ok) : readT_ (bytesT t) = (t, 0) := by
  unfold readT_
  rw [if_pos (bytesT_len h), rd_bytesT h]
theorem bytesT_byt {t : Tk} (h : t.ok) : byt (bytesT t) := byt_append (msgT_byt t) h.d.2
set_option maxHeartbeats 4000000 in
theorem f10_ok (t : Tk) (b : List Int) (ht : t.ok) (hb : byt b) :
    Fn Tryd.prog X.G 10 [.p (tkv t), bvs b] (.p (.b true)) := by
  refine Fn.intro (I := []) hX hm 0 Tryd.func10 rfl rfl (by kernel_rfl) rfl ?_
  have c7 := f40_ok
  conv => whnf
  refine iteC (fun h => ?_) (fun h => ?_)
  · conv => whnf
    refine ⟨_, c7, ?_⟩
    conv => whnf
    refine iteT rfl ?_
    rfl
  have lb := of_decide_eq_false h
  rw [List.length_map] at lb
  clear h
  have c1 := f42_ok t ht
  have c2 := f43_ok (bytesT t) (bytesT_byt ht) (by rw [bytesT_len ht]; decide)
  rw [readT_back ht] at c2
  have c3 := f31_ok t ht
  have c4 := f44_ok (bytesT t) (msgT t ++ t.d) (by rw [bytesT_len ht]; decide)
  rw [decide_eq_true (show bytesT t = msgT t ++ t.d from rfl)] at c4
  have c5 := f43_ok b hb (by omega)
  have hs := sameT t
  have hl := msgT_len t
  have hd := ht.d.1
  have ee : bv (msgT t ++ t.d) = List.replicate 0 (PV.i .u8 0) ++ List.take 20 (List.drop 0 (bv (msgT t))) ++ List.take 32 (List.drop 0 (bv t.d)) := by
    rw [List.drop_zero, List.drop_zero, List.take_of_length_le (by rw [List.length_map, hl]; omega), List.take_of_length_le (by rw [List.length_map, hd]; omega), bv_app]
    rfl
  rw [show bvs (msgT t ++ t.d) = .ro ush (bv (msgT t ++ t.d)) from rfl, ee] at c4
  have c8 := f44_ok b b (by omega)
  rw [decide_eq_true rfl] at c8
  have c6 : b.length = 52 → Fn Tryd.prog X.G 42 [.p (tkv (rdT b))] (bvs b) := fun hl5 => by
    have c6 := f42_ok (rdT b) (rdT_ok hb hl5)
    rw [rdT_back hb hl5] at c6
    exact c6
  have hr : b.length = 52 → readT_ b = (rdT b, 0) := fun h => by unfold readT_; rw [if_pos h]
  have hn : b.length ≠ 52 → readT_ b = (t0T, 12) := fun h => by unfold readT_; rw [if_neg h]
  have hq : b.length ≠ 52 → (((bv b).length : Int) != 52) = true := fun h => bne_iff_ne.2 (by rw [List.length_map]; omega)
  generalize rdT b = u at *
  generalize bytesT t = w at *
  generalize msgT t = m at *
  by_cases hl5 : b.length = 52
  all_goals
    first
      | rw [hr hl5] at c5; have c6 := c6 hl5
      | rw [hn hl5] at c5; have hq := hq hl5
    conv => whnf
    refine ⟨_, c1, ?_⟩
    conv => whnf
    refine ⟨_, c2, ?_⟩
    conv => whnf
    refine ⟨_, c3, ?_⟩
    conv => whnf
    refine iteF rfl ?_
    conv => whnf
    refine iteF (by show (!PV.same (tkv t) (tkv t)) = false; rw [hs]; rfl) ?_
    conv => whnf
    iterate 2 (conv => arg 2; repeat (first | rw [capN _ (by simp; omega)] | (whnf; arg 2))
               conv => whnf)
    refine ⟨_, c4, ?_⟩
    repeat' (conv => whnf
             first
              | refine ⟨_, c5, ?_⟩
              | refine ⟨_, c6, ?_⟩
              | refine ⟨_, c7, ?_⟩
              | refine ⟨_, c8, ?_⟩
              | refine iteT rfl ?_
              | refine iteF rfl ?_
              | refine iteT hq ?_)
  all_goals rfl
end Go.Proofs.YtkcnchlahhlkfaaDoor.AM
