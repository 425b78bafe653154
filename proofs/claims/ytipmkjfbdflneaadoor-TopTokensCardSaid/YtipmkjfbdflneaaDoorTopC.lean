/- TopTokens: a command against the digests that make its tag. -/
import Derived.Test.YtipmkjfbdflneaaDoorTopA
import Derived.Test.YtipmkjfbdflneaaDoorTopB
namespace Go.Proofs.YtipmkjfbdflneaaDoor.AM
open Go Go.Proofs
set_option maxRecDepth 100000

theorem x8_ne (x : Int) (h : 0 ≤ x ∧ x < 256) : x8 x 1 ≠ x := by
  have key : ∀ n : Fin 256, x8 ((n.val : Nat) : Int) 1 ≠ ((n.val : Nat) : Int) := by decide +kernel
  have := key ⟨x.toNat, by omega⟩
  rw [show ((x.toNat : Nat) : Int) = x by omega] at this
  exact this
set_option maxHeartbeats 8000000 in
theorem f11_ok (s : List Int) (c : Cm) (b : List Int) (R : Bool) (hs : byt s) (ls : s.length = 32) (hc : c.ok) (h : okC c) (hbl : b.length = 88) (hbm : b.take 56 = msgC c) (hR : R = decide (sgD s c = c.d)) :
    Fn Tryd.prog X.G 11 [.p (dv s), .p (cmv c), bvs b, .p (.b R)] (.p (.b true)) := by
  refine Fn.intro (I := []) hX hm 0 Tryd.func11 rfl rfl (by kernel_rfl) rfl ?_
  have c1 := f36_ok c hc
  rw [show befC c = msgC c from by unfold befC; rw [if_pos h], show befE c = 0 from by unfold befE; rw [if_pos h]] at c1
  have c2 := f37_ok s [97] hs (byt_allT rfl) (by omega) (by decide)
  rw [show bvs s = .ro ush (((bv s).drop 0).take 32) from by rw [List.drop_zero, List.take_of_length_le (by rw [List.length_map, ls]; omega)]] at c2
  have lk := cmdD_len s
  have c3 := f37_ok (cmdD s) (msgC c) (cmdD_byt s) (msgC_byt hc) (by omega) (by rw [msgC_len]; decide)
  rw [show bvs (cmdD s) = .ro ush (((bv (cmdD s)).drop 0).take 32) from by rw [List.drop_zero, List.take_of_length_le (by rw [List.length_map, lk]; omega)]] at c3
  have c4 := f38_ok (b.take 56) (msgC c) (by simp; omega)
  rw [decide_eq_true hbm] at c4
  have c5 := f39_ok s hs ls
  have c2 : Fn Tryd.prog X.G 37 [.ro ush (((bv s).drop 0).take 32), bvs [97]] (.tup [.p (dv (cmdD s)), .p (.b true)]) := c2
  have lm := msgC_len c
  have c6 := f22_ok
  have c7 := f40_ok ⟨[], []⟩ c ok_nil hc
  rw [(one_c h).1, (one_c h).2] at c7
  have ho : (comF c).ok := ⟨rngI rfl, t0T_ok, rngI rfl, rngI rfl, hc⟩
  have c8 := f17_ok ⟨[], [c]⟩ (comF c) (one_cok h hc) ho
  rw [accB_0 (one_cf h) (comF_okF.2 h), accE_0 (one_cf h) (comF_okF.2 h), sameB_t (same_c.2 (by simp))] at c8
  obtain ⟨x, r, hd⟩ : ∃ x r, c.d = x :: r := by
    have := hc.d.1
    cases hcd : c.d with
    | nil => rw [hcd] at this; cases this
    | cons x r => exact ⟨x, r, rfl⟩
  have hx : 0 ≤ x ∧ x < 256 := hc.d.2 x (by rw [hd]; simp)
  have hc' : (withD c (x8 x 1 :: r)).ok := ⟨hc.op, hc.t, hc.u, hc.l0, hc.l1, hc.l2, hc.us, hc.en, hc.x, ⟨by have := hc.d.1; rw [hd] at this; exact this, fun y hy => by
    rcases List.mem_cons.1 hy with rfl | hy
    · exact x8_range _ _
    · exact hc.d.2 y (by rw [hd]; exact List.mem_cons_of_mem _ hy)⟩⟩
  have h' : okC (withD c (x8 x 1 :: r)) := h
  have ho' : (comF (withD c (x8 x 1 :: r))).ok := ⟨rngI rfl, t0T_ok, rngI rfl, rngI rfl, hc'⟩
  have c9 := f17_ok ⟨[], [c]⟩ (comF (withD c (x8 x 1 :: r))) (one_cok h hc) ho'
  rw [accB_0 (one_cf h) (comF_okF.2 h'), accE_0 (one_cf h) (comF_okF.2 h'), sameB_f (fun hh => by
    have e := List.mem_singleton.1 (same_c.1 hh)
    have e2 := congrArg Cm.d e
    rw [hd] at e2
    have e3 : x8 x 1 :: r = x :: r := e2
    exact x8_ne x hx (List.cons.inj e3).1)] at c9
  have hT := same_dvT (cmdD s)
  have hS := same_dv (sgD s c) c.d
  rw [← hR] at hS
  clear hR hbm hc' h' ho' ho h hs
  unfold sgD at hS
  generalize tagD (cmdD s) (msgC c) = tg at *
  generalize msgC c = m at *
  generalize cmdD s = k at *
  have e1 : (((bv b).length : Int) != IntKind.i64.wrap (((bv m).length : Int) + 32)) = false := by rw [List.length_map, List.length_map, lm, hbl]; rfl
  have e2 : decide (((bv m).length : Int) ≤ ((bv b).length : Int)) = true := decide_eq_true (by rw [List.length_map, List.length_map, lm, hbl]; decide)
  have s1 : List.take (((bv m).length : Int)).toNat (bv b) = bv (b.take 56) := by rw [List.length_map, lm]; simp
  have c4 : Fn Tryd.prog X.G 38 [.ro ush (List.take (((bv m).length : Int)).toNat (bv b)), bvs m] (.p (.b true)) := by rw [s1]; exact c4
  have e3 : (!PV.same (dv k) (dv k)) = false := by rw [hT]; rfl
  obtain ⟨op, t, u, l0, l1, l2, us, en, xp, d⟩ := c
  obtain rfl : d = x :: r := hd
  conv => whnf
  refine ⟨_, c1, ?_⟩
  conv => whnf
  refine ⟨_, c2, ?_⟩
  conv => whnf
  refine ⟨_, c3, ?_⟩
  iterate 8 (try (conv => whnf
                  first | refine iteT rfl ?_ | refine iteF rfl ?_))
  conv => whnf
  refine iteF e1 ?_
  iterate 3 (try (conv => whnf
                  first | refine iteT rfl ?_ | refine iteF rfl ?_))
  conv => whnf
  conv => arg 2; repeat (first | rw [e2] | (whnf; arg 2))
  conv => whnf
  refine ⟨_, c4, ?_⟩
  iterate 3 (try (conv => whnf
                  first | refine iteT rfl ?_ | refine iteF rfl ?_))
  conv => whnf
  refine ⟨_, c5, ?_⟩
  conv => whnf
  refine iteF e3 ?_
  cases R
  all_goals
    conv => whnf
    first | refine iteT hS ?_ | refine iteF hS ?_
    conv => whnf
    refine iteF rfl ?_
    conv => whnf
    refine ⟨_, c6, ?_⟩
    conv => whnf
    refine ⟨_, c7, ?_⟩
    conv => whnf
    refine ⟨_, c8, ?_⟩
    conv => whnf
    refine ⟨_, c9, ?_⟩
    iterate 7 (try (conv => whnf
                    first | refine iteT rfl ?_ | refine iteF rfl ?_))
    rfl
end Go.Proofs.YtipmkjfbdflneaaDoor.AM
