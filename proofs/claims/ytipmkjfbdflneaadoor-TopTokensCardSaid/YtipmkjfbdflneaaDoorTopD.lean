/- TopTokens: a request's bytes as fields, and in parts. -/
import Derived.Test.YtipmkjfbdflneaaDoorTopA
import Derived.Test.YtipmkjfbdflneaaDoorTopB
namespace Go.Proofs.YtipmkjfbdflneaaDoor.AM
open Go Go.Proofs
set_option maxRecDepth 100000

def row8 (f : Fr) : List Fd := [numF 2 1, numF 4 f.tk.t, numF 4 f.tk.u, numF 4 f.tk.e, numF 5 f.tk.x, ⟨6, 0, f.tk.d⟩, numF 3 f.ep, numF 4 f.co]
theorem row8_ok {f : Fr} (hf : f.ok) : ∀ g ∈ row8 f, g.ok := by
  have h1 := hf.ep
  have h2 := hf.co
  have h3 := hf.tk.t
  have h4 := hf.tk.u
  have h5 := hf.tk.e
  have h6 := hf.tk.x
  intro g hg
  simp only [row8, List.mem_cons, List.not_mem_nil, or_false] at hg
  rcases hg with rfl | rfl | rfl | rfl | rfl | rfl | rfl | rfl
  · exact numF_ok (by decide) (by omega)
  · exact numF_ok (by decide) (by omega)
  · exact numF_ok (by decide) (by omega)
  · exact numF_ok (by decide) (by omega)
  · exact numF_ok (by decide) (by omega)
  · exact ⟨(by decide : (0 : Int) ≤ 6 ∧ (6 : Int) < 256), (by decide : (0 : Int) ≤ 0 ∧ (0 : Int) < 18446744073709551616), hf.tk.d⟩
  · exact numF_ok (by decide) (by omega)
  · exact numF_ok (by decide) (by omega)
theorem row8_fine {f : Fr} (hf : f.ok) : rowE (row8 f) = 0 := by
  have h1 := hf.ep
  have h2 := hf.co
  have h3 := hf.tk.t
  have h4 := hf.tk.u
  have h5 := hf.tk.e
  have h6 := hf.tk.x
  refine row_of (by simp [row8]) fun g hg => ?_
  simp only [row8, List.mem_cons, List.not_mem_nil, or_false] at hg
  rcases hg with rfl | rfl | rfl | rfl | rfl | rfl | rfl | rfl <;> simp [badF, widK, mostK] <;> omega
theorem row8_flat (f : Fr) : flatF (row8 f) = bytesR f := by
  have e0 : oneF (numF 2 1) = [1] := rfl
  have e1 : ∀ n, oneF (numF 3 n) = bytesU n 2 := fun n => rfl
  have e3 : ∀ n, oneF (numF 4 n) = bytesU n 4 := fun n => rfl
  have e4 : ∀ n, oneF (numF 5 n) = bytesU n 8 := fun n => rfl
  have e5 : oneF ⟨6, 0, f.tk.d⟩ = f.tk.d := rfl
  simp only [flatF, row8, bytesR, bytesT, msgT, List.flatMap_cons, List.flatMap_nil, e0, e1, e3, e4, e5, List.append_nil, List.append_assoc]
theorem row8_read {f : Fr} (hf : f.ok) : readL [2, 4, 4, 4, 5, 6, 3, 4] (bytesR f) = (row8 f, 0) := by
  have hr := read_write (row8_ok hf) (row8_fine hf)
  rw [row8_flat] at hr
  exact hr
section
variable {f : Fr} (hf : f.ok)
include hf
theorem bR_52 : ((bytesR f).drop 1).take 52 = bytesT f.tk := by
  unfold bytesR
  rw [List.append_assoc]
  show (bytesT f.tk ++ (bytesU f.ep 2 ++ bytesU f.co 4)).take 52 = _
  exact List.take_left' (bytesT_len hf.tk)
theorem bR_20 : ((bytesR f).drop 1).take 20 = msgT f.tk := by
  have h := congrArg (List.take 20) (bR_52 hf)
  rw [List.take_take] at h
  rw [show min 20 52 = 20 from rfl] at h
  rw [h]
  exact List.take_left' (msgT_len _)
omit hf in
theorem bR_4 : ((bytesR f).drop 1).take 4 = bytesU f.tk.t 4 := by
  show ((bytesT f.tk ++ (bytesU f.ep 2 ++ bytesU f.co 4))).take 4 = _
  unfold bytesT msgT
  simp only [List.append_assoc]
  exact List.take_left' (bytesU_length _ _)
omit hf in
theorem bR_9 : ((bytesR f).drop 9).take 4 = bytesU f.tk.e 4 := by
  show ((bytesT f.tk ++ (bytesU f.ep 2 ++ bytesU f.co 4)).drop 8).take 4 = _
  unfold bytesT msgT
  simp only [List.append_assoc]
  rw [show (8 : Nat) = 4 + 4 from rfl, ← List.drop_drop, List.drop_left' (bytesU_length _ _), List.drop_left' (bytesU_length _ _)]
  exact List.take_left' (bytesU_length _ _)
theorem bR_len : (bytesR f).length = 59 := by simp [bytesR, bytesU_length, bytesT_len hf.tk]
theorem bR_byt : byt (bytesR f) := by rw [← row8_flat]; exact flatF_byt (row8_ok hf)
end
set_option maxHeartbeats 8000000 in
theorem f12_ok (s : List Int) (f : Fr) (R : Bool) (hs : byt s) (ls : s.length = 32) (hf : f.ok) (hk : f.k = 1) (h16 : f.tk.t < 16) (hF : okF f)
    (hR : R = (isK f.tk.t f.tk.e && decide (tagD (tagD s (keyM f.tk.t f.tk.e)) (msgT f.tk) = f.tk.d))) :
    Fn Tryd.prog X.G 12 [.p (dv s), .p (frv f), bvs (bytesR f), .p (.b R)] (.p (.b true)) := by
  refine Fn.intro (I := []) hX hm 0 Tryd.func12 rfl rfl (by kernel_rfl) rfl ?_
  have hbl := bR_len hf
  have hbb := bR_byt hf
  have lm := msgT_len f.tk
  have c1 := f34_ok [2, 4, 4, 4, 5, 6, 3, 4] (bytesR f) (byt_of rfl) hbb (by omega) (by decide)
  rw [row8_read hf] at c1
  have c2 := f41_ok f.tk hf.tk
  have c3 := f42_ok (bytesT f.tk) (bytesT_byt hf.tk) (by rw [bytesT_len hf.tk]; decide)
  rw [readT_back hf.tk] at c3
  have c4 := f38_ok (msgT f.tk) (msgT f.tk) (by omega)
  rw [decide_eq_true rfl] at c4
  have c5 := f43_ok f.tk.t f.tk.e
  have c6 := f37_ok s (keyM f.tk.t f.tk.e) hs (keyM_byt _ _) (by omega) (by rw [keyM_len]; decide)
  have c7 := f37_ok (tagD s (keyM f.tk.t f.tk.e)) (msgT f.tk) (tagD_byt _ _) (msgT_byt _) (by rw [tagD_len]; decide) (by omega)
  have c8 := f27_ok (tagD s (keyM f.tk.t f.tk.e)) f.tk (tagD_byt _ _) (tagD_len _ _) hf.tk
  have c9 := f22_ok
  have c10 := f21_ok ⟨[], []⟩ f.tk ok_nil hf.tk
  rw [(one_t h16).1, (one_t h16).2] at c10
  have c11 := f17_ok ⟨[f.tk], []⟩ f (one_tok h16 hf.tk) hf
  rw [accB_0 (one_tf h16) hF, accE_0 (one_tf h16) hF, sameB_t (.inl ⟨hk, by simp⟩)] at c11
  have lb : (bv (bytesR f)).length = 59 := by rw [List.length_map, hbl]
  have s52 : List.take (52 : Int).toNat (List.drop (1 : Int).toNat (bv (bytesR f))) = bv (bytesT f.tk) := by rw [← bR_52 hf]; simp
  have s20 : List.take (20 : Int).toNat (List.drop (1 : Int).toNat (bv (bytesR f))) = bv (msgT f.tk) := by rw [← bR_20 hf]; simp
  have s4 : List.take (4 : Int).toNat (List.drop (1 : Int).toNat (bv (bytesR f))) = bv (bytesU f.tk.t 4) := by rw [← bR_4]; simp
  have s9 : List.take (4 : Int).toNat (List.drop (9 : Int).toNat (bv (bytesR f))) = bv (bytesU f.tk.e 4) := by rw [← bR_9]; simp
  have sk : bv (keyM f.tk.t f.tk.e) = [.i .u8 107] ++ (([] ++ List.take (4 : Int).toNat (List.drop (1 : Int).toNat (bv (bytesR f)))) ++ List.take (4 : Int).toNat (List.drop (9 : Int).toNat (bv (bytesR f)))) := by
    rw [s4, s9, List.nil_append, ← bv_app]
    rfl
  have ss : bv s = ((bv s).drop 0).take 32 := by rw [List.drop_zero, List.take_of_length_le (by rw [List.length_map, ls]; omega)]
  have sm : bv (msgT f.tk) = ((bv (msgT f.tk)).drop 0).take 20 := by rw [List.drop_zero, List.take_of_length_le (by rw [List.length_map, lm]; omega)]
  have lK := tagD_len s (keyM f.tk.t f.tk.e)
  have sK : bv (tagD s (keyM f.tk.t f.tk.e)) = ((bv (tagD s (keyM f.tk.t f.tk.e))).drop 0).take 32 := by rw [List.drop_zero, List.take_of_length_le (by rw [List.length_map, lK]; omega)]
  have c3 : Fn Tryd.prog X.G 42 [.ro ush (List.take (52 : Int).toNat (List.drop (1 : Int).toNat (bv (bytesR f))))] (.tup [.p (tkv f.tk), .p (.i .i64 0)]) := by rw [s52]; exact c3
  have c4 : Fn Tryd.prog X.G 38 [.ro ush (List.take (20 : Int).toNat (List.drop (1 : Int).toNat (bv (bytesR f)))), .ro ush (((bv (msgT f.tk)).drop 0).take 20)] (.p (.b true)) := by rw [s20, ← sm]; exact c4
  unfold bvs at c6 c7
  rw [ss, sk] at c6
  rw [sm, sK] at c7
  unfold verE at c8
  have d53 : decide ((53 : Int) ≤ ((bv (bytesR f)).length : Int)) = true := decide_eq_true (by rw [lb]; decide)
  have d21 : decide ((21 : Int) ≤ ((bv (bytesR f)).length : Int)) = true := decide_eq_true (by rw [lb]; decide)
  have d5 : decide ((5 : Int) ≤ ((bv (bytesR f)).length : Int)) = true := decide_eq_true (by rw [lb]; decide)
  have d13 : decide ((13 : Int) ≤ ((bv (bytesR f)).length : Int)) = true := decide_eq_true (by rw [lb]; decide)
  have h1 := hf.ep
  have h2 := hf.co
  have h3 := hf.tk.t
  have h4 := hf.tk.u
  have h5 := hf.tk.e
  have q1 : (f.tk.t != IntKind.u64.wrap f.tk.t) = false := by rw [wr_u64 h3.1 (by omega)]; exact neqS _
  have q2 : (f.tk.u != IntKind.u64.wrap f.tk.u) = false := by rw [wr_u64 h4.1 (by omega)]; exact neqS _
  have q3 : (f.tk.e != IntKind.u64.wrap f.tk.e) = false := by rw [wr_u64 h5.1 (by omega)]; exact neqS _
  have q4 : (f.tk.x != f.tk.x) = false := neqS _
  have q5 : (!PV.same (dv f.tk.d) (dv f.tk.d)) = false := by rw [same_dvT]; rfl
  have q6 : (f.ep != IntKind.u64.wrap f.ep) = false := by rw [wr_u64 h1.1 (by omega)]; exact neqS _
  have q7 : (f.co != IntKind.u64.wrap f.co) = false := by rw [wr_u64 h2.1 (by omega)]; exact neqS _
  have q8 : (!PV.same (tkv f.tk) (tkv f.tk)) = false := by rw [same_tk, decide_eq_true rfl]; rfl
  have hS := same_dv (tagD (tagD s (keyM f.tk.t f.tk.e)) (msgT f.tk)) f.tk.d
  clear hbl hbb s52 s20 s4 s9 sk ss sm sK hF h16 hs
  generalize tagD (tagD s (keyM f.tk.t f.tk.e)) (msgT f.tk) = tg at *
  generalize tagD s (keyM f.tk.t f.tk.e) = K at *
  generalize msgT f.tk = m at *
  generalize bytesR f = b at *
  generalize isK f.tk.t f.tk.e = p at *
  conv => whnf
  refine ⟨_, c1, ?_⟩
  iterate 18 (try (conv => whnf
                   first | refine iteF q1 ?_ | refine iteF q2 ?_ | refine iteF q3 ?_ | refine iteF q4 ?_ | refine iteF q5 ?_ | refine iteF q6 ?_ | refine iteF q7 ?_ | refine iteT rfl ?_ | refine iteF rfl ?_))
  conv => whnf
  refine ⟨_, c2, ?_⟩
  conv => whnf
  conv => arg 2; repeat (first | rw [d53] | (whnf; arg 2))
  conv => whnf
  refine ⟨_, c3, ?_⟩
  iterate 3 (try (conv => whnf
                  first | refine iteF q8 ?_ | refine iteT rfl ?_ | refine iteF rfl ?_))
  conv => whnf
  conv => arg 2; repeat (first | rw [d21] | (whnf; arg 2))
  conv => whnf
  refine ⟨_, c4, ?_⟩
  iterate 3 (try (conv => whnf
                  first | refine iteT rfl ?_ | refine iteF rfl ?_))
  conv => whnf
  refine ⟨_, c5, ?_⟩
  cases p
  · obtain rfl : R = false := hR
    iterate 3 (try (conv => whnf
                    first | refine iteT rfl ?_ | refine iteF rfl ?_))
    rfl
  have hR : R = decide (tg = f.tk.d) := hR
  rw [← hR] at hS
  iterate 3 (try (conv => whnf
                  first | refine iteT rfl ?_ | refine iteF rfl ?_))
  iterate 6 (try (conv => whnf
                  conv => arg 2; repeat (first | rw [d5] | rw [d13] | rw [capN _ (by simp; omega)] | (whnf; arg 2))))
  conv => whnf
  refine ⟨_, c6, ?_⟩
  conv => whnf
  refine ⟨_, c7, ?_⟩
  by_cases he : tg = f.tk.d
  all_goals
    first | (rw [if_pos he] at c8; rw [decide_eq_true he] at hR) | (rw [if_neg he] at c8; rw [decide_eq_false he] at hR)
    subst hR
    iterate 9 (try (conv => whnf
                    first | refine iteT hS ?_ | refine iteF hS ?_ | refine iteT rfl ?_ | refine iteF rfl ?_))
    conv => whnf
    refine ⟨_, c8, ?_⟩
    iterate 4 (try (conv => whnf
                    first | refine iteT rfl ?_ | refine iteF rfl ?_))
    conv => whnf
    refine ⟨_, c9, ?_⟩
    conv => whnf
    refine ⟨_, c10, ?_⟩
    conv => whnf
    refine ⟨_, c11, ?_⟩
    iterate 5 (try (conv => whnf
                    first | refine iteT rfl ?_ | refine iteF rfl ?_))
    rfl
end Go.Proofs.YtipmkjfbdflneaaDoor.AM
