/- Frames: bytes, tenants, messages. -/
import Derived.Test.YtjgffjofgeppoaaFrameC
import Derived.Test.YtjgffjofgeppoaaFrameD
namespace Go.Proofs.Ytjgffjofgeppoaa.AM
open Go Go.Proofs
set_option maxRecDepth 100000
def fitL (l : Lm) : Prop := (0 ≤ l.b ∧ l.b < 4294967296) ∧ (0 ≤ l.r ∧ l.r < 4294967296) ∧ (0 ≤ l.p ∧ l.p < 4294967296)
def fitC (c : Cm) : Prop := fitL c.l0 ∧ fitL c.l1 ∧ fitL c.l2
theorem okC_fit {c : Cm} (h : okC c) : fitC c := by
  obtain ⟨q0, q1, q2⟩ := okC_lims h
  exact ⟨lim_range q0, lim_range q1, lim_range q2⟩
theorem rowC_ok' {c : Cm} (ho : c.ok) (h : fitC c) : ∀ f ∈ rowC c, f.ok := by
  obtain ⟨⟨a0, a1, a2⟩, ⟨b0, b1, b2⟩, ⟨d0, d1, d2⟩⟩ := h
  have k1 := ho.op
  have k2 := ho.t
  have k3 := ho.u
  have k4 := ho.us
  have k5 := ho.en
  have k6 := ho.x
  intro f hf
  simp only [rowC, List.mem_cons, List.not_mem_nil, or_false] at hf
  rcases hf with rfl | rfl | rfl | rfl | rfl | rfl | rfl | rfl | rfl | rfl | rfl | rfl | rfl | rfl | rfl | rfl | rfl
  case inr.inr.inr.inr.inr.inr.inr.inr.inr.inr.inr.inr.inr.inr.inr.inr =>
    exact ⟨(by decide : (0 : Int) ≤ 6 ∧ (6 : Int) < 256), (by decide : (0 : Int) ≤ 0 ∧ (0 : Int) < 18446744073709551616), ho.d⟩
  all_goals exact numF_ok (by decide) (by omega)
theorem rowC_ok {c : Cm} (ho : c.ok) (h : okC c) : ∀ f ∈ rowC c, f.ok := rowC_ok' ho (okC_fit h)
theorem rowC_fine' {c : Cm} (ho : c.ok) (h : fitC c) : rowE (rowC c) = 0 := by
  obtain ⟨⟨a0, a1, a2⟩, ⟨b0, b1, b2⟩, ⟨d0, d1, d2⟩⟩ := h
  have k1 := ho.op
  have k2 := ho.t
  have k3 := ho.u
  have k4 := ho.us
  have k5 := ho.en
  have k6 := ho.x
  refine row_of (by simp [rowC]) fun f hf => ?_
  simp only [rowC, List.mem_cons, List.not_mem_nil, or_false] at hf
  rcases hf with rfl | rfl | rfl | rfl | rfl | rfl | rfl | rfl | rfl | rfl | rfl | rfl | rfl | rfl | rfl | rfl | rfl <;> simp [badF, widK, mostK] <;> omega
theorem rowC_fine {c : Cm} (ho : c.ok) (h : okC c) : rowE (rowC c) = 0 := rowC_fine' ho (okC_fit h)
def bytesC (c : Cm) : List Int := msgC c ++ c.d
theorem rowC_flat {c : Cm} (ho : c.ok) : flatF (rowC c) = bytesC c := by
  have e2 : oneF (numF 2 2) = [2] := by decide
  have e3 : oneF (numF 2 c.op) = [c.op] := byteU_1 ho.op
  have e4 : oneF (numF 2 c.us) = [c.us] := byteU_1 ho.us
  have e5 : oneF (numF 2 c.en) = [c.en] := byteU_1 ho.en
  have e6 : ∀ n, oneF (numF 4 n) = bytesU n 4 := fun n => rfl
  have e7 : ∀ n, oneF (numF 5 n) = bytesU n 8 := fun n => rfl
  have e8 : oneF ⟨6, 0, c.d⟩ = c.d := rfl
  simp only [flatF, rowC, bytesC, msgC, List.flatMap_cons, List.flatMap_nil, e2, e3, e4, e5, e6, e7, e8, List.append_nil, List.append_assoc, List.cons_append, List.nil_append]
theorem msgC_len (c : Cm) : (msgC c).length = 56 := by simp [msgC, bytesU_length]
theorem bytesC_len {c : Cm} (ho : c.ok) : (bytesC c).length = 88 := by simp [bytesC, msgC_len, ho.d.1]
def bytesR (f : Fr) : List Int := [1] ++ bytesT f.tk ++ (bytesU f.ep 2 ++ bytesU f.co 4)
def bytesF (f : Fr) : List Int := if f.k = 2 then bytesC f.cm else bytesR f
def writeF (f : Fr) : List Int := if okF f then bytesF f else []
def tenF (f : Fr) : Int := if okF f then (if f.k = 2 then f.cm.t else f.tk.t) else 0
def rowQ (f : Fr) : List Fd := [numF 3 f.ep, numF 4 f.co]
def rowQw (f : Fr) : List Fd := [numF 3 (IntKind.u64.wrap f.ep), numF 4 (IntKind.u64.wrap f.co)]
theorem rowQw_eq {f : Fr} (hf : f.ok) : rowQw f = rowQ f := by
  have h1 := hf.ep
  have h2 := hf.co
  unfold rowQw rowQ
  rw [wr_u64 h1.1 (by omega), wr_u64 h2.1 (by omega)]
theorem rowQ_ok {f : Fr} (hf : f.ok) : ∀ g ∈ rowQ f, g.ok := by
  have h1 := hf.ep
  have h2 := hf.co
  intro g hg
  simp only [rowQ, List.mem_cons, List.not_mem_nil, or_false] at hg
  rcases hg with rfl | rfl <;> exact numF_ok (by decide) (by omega)
theorem rowQ_fine {f : Fr} (hf : f.ok) : rowE (rowQ f) = 0 := by
  have h1 := hf.ep
  have h2 := hf.co
  refine row_of (by simp [rowQ]) fun g hg => ?_
  simp only [rowQ, List.mem_cons, List.not_mem_nil, or_false] at hg
  rcases hg with rfl | rfl <;> simp [badF, widK, mostK] <;> omega
theorem rowQ_flat (f : Fr) : flatF (rowQ f) = bytesU f.ep 2 ++ bytesU f.co 4 := by
  have e1 : ∀ n, oneF (numF 3 n) = bytesU n 2 := fun n => rfl
  have e6 : ∀ n, oneF (numF 4 n) = bytesU n 4 := fun n => rfl
  simp only [flatF, rowQ, List.flatMap_cons, List.flatMap_nil, e1, e6, List.append_nil]
theorem f52_ok (f : Fr) (hf : f.ok) : Fn Try.prog X.G 52 [.p (frv f)] (.tup [bvs (writeF f), .p (.i .i64 (chkFr f))]) := by
  refine Fn.intro (I := []) hX hm 0 Try.func52 rfl rfl (by kernel_rfl) rfl ?_
  have c1 := f58_ok f hf
  have hbt := bytesT_len hf.tk
  conv => whnf
  refine ⟨_, c1, ?_⟩
  conv => whnf
  refine iteC (fun h => ?_) (fun h => ?_)
  · rw [chkFr_ne] at h
    have h : ¬ okF f := by simpa using h
    rw [show writeF f = [] from by unfold writeF; rw [if_neg h]]
    rfl
  rw [chkFr_ne] at h
  have h : okF f := by simpa using h
  rw [show writeF f = bytesF f from by unfold writeF; rw [if_pos h], ← cf_0 h]
  conv => whnf
  refine iteC (fun k => ?_) (fun k => ?_)
  · have k : f.k = 2 := by simpa using k
    have hc : okC f.cm := by
      rcases h with h | h
      · omega
      · exact h.2.2
    have c2 := f89_ok f.cm
    rw [rowCw_eq hf.cm hc] at c2
    have c3 := f28_ok (rowC f.cm) (rowC_ok hf.cm hc) (by simp [rowC])
    rw [rowC_fine hf.cm hc, rowL_eq (rowC_fine hf.cm hc), rowC_flat hf.cm] at c3
    rw [show bytesF f = bytesC f.cm from by unfold bytesF; rw [if_pos k]]
    generalize rowC f.cm = R at *
    conv => whnf
    refine ⟨_, c2, ?_⟩
    conv => whnf
    refine ⟨_, c3, ?_⟩
    rfl
  · have k : f.k ≠ 2 := by simpa using k
    have c3 := f28_ok (rowQ f) (rowQ_ok hf) (by simp [rowQ])
    rw [rowQ_fine hf, rowL_eq (rowQ_fine hf), rowQ_flat, ← rowQw_eq hf] at c3
    rw [show bytesF f = bytesR f from by unfold bytesF; rw [if_neg k]]
    have c4 := f48_ok f.tk hf.tk
    unfold bytesR
    generalize hq : bytesU f.ep 2 ++ bytesU f.co 4 = q at *
    have hql : q.length = 6 := by rw [← hq]; simp [bytesU_length]
    generalize bytesT f.tk = B at *
    rw [show bvs ([1] ++ B ++ q) = AV.ro ush (bv [1] ++ bv B ++ bv q) from by simp [bvs]]
    conv => whnf
    refine ⟨_, c3, ?_⟩
    conv => whnf
    refine ⟨_, c4, ?_⟩
    conv => whnf
    conv => arg 2; repeat (first | rw [capN _ (by simp; omega)] | (whnf; arg 2))
    conv => whnf
    conv => arg 2; repeat (first | rw [capN _ (by simp; omega)] | (whnf; arg 2))
    conv => whnf
    rfl
theorem f90_ok (f : Fr) (hf : f.ok) (h : okF f) : Fn Try.prog X.G 90 [.p (frv f)] (bvs (bytesF f)) := by
  refine Fn.intro (I := []) hX hm 0 Try.func90 rfl rfl (by kernel_rfl) rfl ?_
  have hbt := bytesT_len hf.tk
  have hd := hf.cm.d.1
  conv => whnf
  refine iteC (fun k => ?_) (fun k => ?_)
  · have k : f.k = 2 := by simpa using k
    have hc : okC f.cm := by
      rcases h with h | h
      · omega
      · exact h.2.2
    have c2 := f93_ok f.cm
    rw [msgCw_eq hf.cm hc] at c2
    rw [show bytesF f = bytesC f.cm from by unfold bytesF; rw [if_pos k]]
    unfold bytesC
    have hml := msgC_len f.cm
    generalize msgC f.cm = m at *
    conv => whnf
    refine ⟨_, c2, ?_⟩
    conv => whnf
    conv => arg 2; repeat (first | rw [capN _ (by simp; omega)] | (whnf; arg 2))
    conv => whnf
    show some (AV.ro ush (bv m ++ List.take 32 (bv f.cm.d))) = some (.ro ush (bv (m ++ f.cm.d)))
    rw [List.take_of_length_le (by simp [hd]), bv_app]
  · have k : f.k ≠ 2 := by simpa using k
    rw [show bytesF f = bytesR f from by unfold bytesF; rw [if_neg k]]
    have c4 := f49_ok f.tk hf.tk
    have h1 := hf.ep
    have h2 := hf.co
    have c5 := f73_ok (IntKind.u64.wrap f.ep) 2 (by decide)
    have c6 := f73_ok (IntKind.u64.wrap f.co) 4 (by decide)
    have e1 : bytesU f.ep 2 = bytesU (IntKind.u64.wrap f.ep) 2 := by rw [wr_u64 h1.1 (by omega)]
    have e2 : bytesU f.co 4 = bytesU (IntKind.u64.wrap f.co) 4 := by rw [wr_u64 h2.1 (by omega)]
    unfold bytesR
    rw [e1, e2]
    have l1 : (bytesU (IntKind.u64.wrap f.ep) 2).length = 2 := bytesU_length _ _
    have l2 : (bytesU (IntKind.u64.wrap f.co) 4).length = 4 := bytesU_length _ _
    generalize bytesU (IntKind.u64.wrap f.ep) 2 = q1 at *
    generalize bytesU (IntKind.u64.wrap f.co) 4 = q2 at *
    generalize bytesT f.tk = B at *
    rw [show bvs ([1] ++ B ++ (q1 ++ q2)) = AV.ro ush (bv [1] ++ bv B ++ bv q1 ++ bv q2) from by simp [bvs]]
    conv => whnf
    refine ⟨_, c4, ?_⟩
    conv => whnf
    conv => arg 2; repeat (first | rw [capN _ (by simp; omega)] | (whnf; arg 2))
    conv => whnf
    refine ⟨_, c5, ?_⟩
    conv => whnf
    conv => arg 2; repeat (first | rw [capN _ (by simp; omega)] | (whnf; arg 2))
    conv => whnf
    refine ⟨_, c6, ?_⟩
    conv => whnf
    conv => arg 2; repeat (first | rw [capN _ (by simp; omega)] | (whnf; arg 2))
    conv => whnf
    rfl
theorem f53_ok (f : Fr) (hf : f.ok) : Fn Try.prog X.G 53 [.p (frv f)] (.tup [bvs (writeF f), .p (.i .i64 (chkFr f))]) := by
  refine Fn.intro (I := []) hX hm 0 Try.func53 rfl rfl (by kernel_rfl) rfl ?_
  have c1 := f59_ok f hf
  conv => whnf
  refine ⟨_, c1, ?_⟩
  conv => whnf
  refine iteC (fun h => ?_) (fun h => ?_)
  · rw [chkFr_ne] at h
    have h : ¬ okF f := by simpa using h
    rw [show writeF f = [] from by unfold writeF; rw [if_neg h]]
    conv => whnf
    refine ⟨_, c1, ?_⟩
    rfl
  · rw [chkFr_ne] at h
    have h : okF f := by simpa using h
    rw [show writeF f = bytesF f from by unfold writeF; rw [if_pos h], ← cf_0 h]
    conv => whnf
    refine ⟨_, f90_ok f hf h, ?_⟩
    rfl
theorem f54_ok (f : Fr) (hf : f.ok) : Fn Try.prog X.G 54 [.p (frv f)] (.tup [.p (.i .u32 (tenF f)), .p (.i .i64 (chkFr f))]) := by
  refine Fn.intro (I := []) hX hm 0 Try.func54 rfl rfl (by kernel_rfl) rfl ?_
  have c1 := f58_ok f hf
  conv => whnf
  refine ⟨_, c1, ?_⟩
  conv => whnf
  refine iteC (fun h => ?_) (fun h => ?_)
  · rw [chkFr_ne] at h
    have h : ¬ okF f := by simpa using h
    rw [show tenF f = 0 from by unfold tenF; rw [if_neg h]]
    rfl
  rw [chkFr_ne] at h
  have h : okF f := by simpa using h
  rw [← cf_0 h]
  conv => whnf
  refine iteC (fun k => ?_) (fun k => ?_)
  · have k : f.k = 2 := by simpa using k
    rw [show tenF f = f.cm.t from by unfold tenF; rw [if_pos h, if_pos k]]
    rfl
  · have k : f.k ≠ 2 := by simpa using k
    rw [show tenF f = f.tk.t from by unfold tenF; rw [if_pos h, if_neg k]]
    rfl
theorem f91_ok (f : Fr) (h : okF f) : Fn Try.prog X.G 91 [.p (frv f)] (.p (.i .u32 (tenF f))) := by
  refine Fn.intro (I := []) hX hm 0 Try.func91 rfl rfl (by kernel_rfl) rfl ?_
  conv => whnf
  refine iteC (fun k => ?_) (fun k => ?_)
  · have k : f.k = 2 := by simpa using k
    rw [show tenF f = f.cm.t from by unfold tenF; rw [if_pos h, if_pos k]]
    rfl
  · have k : f.k ≠ 2 := by simpa using k
    rw [show tenF f = f.tk.t from by unfold tenF; rw [if_pos h, if_neg k]]
    rfl
theorem f55_ok (f : Fr) (hf : f.ok) : Fn Try.prog X.G 55 [.p (frv f)] (.tup [.p (.i .u32 (tenF f)), .p (.i .i64 (chkFr f))]) := by
  refine Fn.intro (I := []) hX hm 0 Try.func55 rfl rfl (by kernel_rfl) rfl ?_
  have c1 := f59_ok f hf
  conv => whnf
  refine ⟨_, c1, ?_⟩
  conv => whnf
  refine iteC (fun h => ?_) (fun h => ?_)
  · rw [chkFr_ne] at h
    have h : ¬ okF f := by simpa using h
    rw [show tenF f = 0 from by unfold tenF; rw [if_neg h]]
    conv => whnf
    refine ⟨_, c1, ?_⟩
    rfl
  · rw [chkFr_ne] at h
    have h : okF f := by simpa using h
    rw [← cf_0 h]
    conv => whnf
    refine ⟨_, f91_ok f h, ?_⟩
    rfl
def befC (c : Cm) : List Int := if okC c then msgC c else []
def befE (c : Cm) : Int := if okC c then 0 else 8
theorem f56_ok (c : Cm) (hc : c.ok) : Fn Try.prog X.G 56 [.p (cmv c)] (.tup [bvs (befC c), .p (.i .i64 (befE c))]) := by
  refine Fn.intro (I := []) hX hm 0 Try.func56 rfl rfl (by kernel_rfl) rfl ?_
  conv => whnf
  refine ⟨_, f92_ok c hc, ?_⟩
  conv => whnf
  refine iteC (fun h => ?_) (fun h => ?_)
  · have h : okC c := of_decide_eq_true h
    have c2 := f89_ok c
    rw [rowCw_eq hc h] at c2
    have c3 := f28_ok (rowC c) (rowC_ok hc h) (by simp [rowC])
    rw [rowC_fine hc h, rowL_eq (rowC_fine hc h), rowC_flat hc] at c3
    have hml := msgC_len c
    have hbl := bytesC_len hc
    have e8 : List.take ((56 : Int)).toNat (List.drop 0 (bv (bytesC c))) = bv (msgC c) := by
      show List.take 56 (bv (msgC c ++ c.d)) = bv (msgC c)
      rw [bv_app, List.take_left' (by simp [hml])]
    have c4 := f79_ok (msgC c) (by omega)
    rw [show befC c = msgC c from by unfold befC; rw [if_pos h], show befE c = 0 from by unfold befE; rw [if_pos h]]
    unfold bvs at c4
    rw [← e8] at c4
    have d1 : decide ((56 : Int) ≤ ((bv (bytesC c)).length : Int)) = true := decide_eq_true (by rw [List.length_map, hbl]; decide)
    generalize bytesC c = B at *
    generalize msgC c = m at *
    generalize rowC c = R at *
    conv => whnf
    refine ⟨_, c2, ?_⟩
    conv => whnf
    refine ⟨_, c3, ?_⟩
    conv => whnf
    conv => arg 2; repeat (first | rw [d1] | (whnf; arg 2))
    conv => whnf
    refine ⟨_, c4, ?_⟩
    conv => whnf
    exact congrArg (fun l => some (AV.tup [.ro ush l, .p (.i .i64 0)])) e8
  · have h : ¬ okC c := of_decide_eq_false h
    rw [show befC c = [] from by unfold befC; rw [if_neg h], show befE c = 8 from by unfold befE; rw [if_neg h]]
    rfl
theorem f57_ok (c : Cm) (hc : c.ok) : Fn Try.prog X.G 57 [.p (cmv c)] (.tup [bvs (befC c), .p (.i .i64 (befE c))]) := by
  refine Fn.intro (I := []) hX hm 0 Try.func57 rfl rfl (by kernel_rfl) rfl ?_
  conv => whnf
  refine ⟨_, f65_ok c hc, ?_⟩
  conv => whnf
  refine iteC (fun h => ?_) (fun h => ?_)
  · have h : okC c := of_decide_eq_true h
    have c2 := f93_ok c
    rw [msgCw_eq hc h] at c2
    rw [show befC c = msgC c from by unfold befC; rw [if_pos h], show befE c = 0 from by unfold befE; rw [if_pos h]]
    conv => whnf
    refine ⟨_, c2, ?_⟩
    rfl
  · have h : ¬ okC c := of_decide_eq_false h
    rw [show befC c = [] from by unfold befC; rw [if_neg h], show befE c = 8 from by unfold befE; rw [if_neg h]]
    rfl
end Go.Proofs.Ytjgffjofgeppoaa.AM
