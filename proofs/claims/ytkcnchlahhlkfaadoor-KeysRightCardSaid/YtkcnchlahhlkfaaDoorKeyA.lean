/- Keys: tenants' keys, tokens and commands' keys; KeysMakes: the walk of the law. -/
import Derived.Test.YtkcnchlahhlkfaaDoorTkE
namespace Go.Proofs.YtkcnchlahhlkfaaDoor.AM
open Go Go.Proofs
set_option maxRecDepth 100000

def isK (t e : Int) : Bool := decide (t < 16) && decide (e ≤ 1000000)
def keyM (t e : Int) : List Int := 107 :: (bytesU t 4 ++ bytesU e 4)
def keyR (t e : Int) : List Fd := [numF 2 107, numF 4 t, numF 4 e]
def keyD (s : List Int) (t e : Int) : List Int := if isK t e = true then tagD s (keyM t e) else zd
def keyE (t e : Int) : Int := if isK t e = true then 0 else 2
theorem keyM_byt (t e : Int) : byt (keyM t e) := by
  rw [show keyM t e = [107] ++ (bytesU t 4 ++ bytesU e 4) from rfl]
  exact byt_append (byt_allT rfl) (byt_append (bytesU_byt8 _ _) (bytesU_byt8 _ _))
theorem keyM_len (t e : Int) : (keyM t e).length = 9 := by simp [keyM, bytesU_length]
theorem keyR_ok {t e : Int} (ht : 0 ≤ t ∧ t < 4294967296) (he : 0 ≤ e ∧ e < 4294967296) : ∀ f ∈ keyR t e, f.ok := by
  intro f hf
  simp only [keyR, List.mem_cons, List.not_mem_nil, or_false] at hf
  rcases hf with rfl | rfl | rfl
  · exact numF_ok (by decide) (by decide)
  · exact numF_ok (by decide) (by omega)
  · exact numF_ok (by decide) (by omega)
theorem keyR_fine {t e : Int} (ht : 0 ≤ t ∧ t < 4294967296) (he : 0 ≤ e ∧ e < 4294967296) : rowE (keyR t e) = 0 := by
  refine row_of (by simp [keyR]) fun f hf => ?_
  simp only [keyR, List.mem_cons, List.not_mem_nil, or_false] at hf
  rcases hf with rfl | rfl | rfl <;> simp [badF, widK, mostK] <;> omega
theorem keyR_flat (t e : Int) : flatF (keyR t e) = keyM t e := by
  have e3 : ∀ n, oneF (numF 4 n) = bytesU n 4 := fun n => rfl
  have e4 : oneF (numF 2 107) = [107] := by kernel_rfl
  simp only [flatF, keyR, keyM, List.flatMap_cons, List.flatMap_nil, e3, e4, List.append_nil, List.singleton_append]
theorem f52_ok (t e : Int) : Fn Tryd.prog X.G 52 [.p (.i .u32 t), .p (.i .u32 e)] (.p (.b (isK t e))) := by
  refine Fn.intro (I := []) hX hm 0 Tryd.func52 rfl rfl (by kernel_rfl) rfl ?_
  unfold isK
  conv => whnf
  refine iteC (fun h => ?_) (fun h => ?_)
  · rw [h]
    conv => whnf
    refine iteC (fun h => ?_) (fun h => ?_)
    · rw [h]; rfl
    · rw [h]; rfl
  · rw [h]; rfl
theorem f73_ok (s : List Int) (t e : Int) (hs : byt s) (ls : s.length = 32) (ht : 0 ≤ t ∧ t < 4294967296) (he : 0 ≤ e ∧ e < 4294967296) :
    Fn Tryd.prog X.G 73 [.p (dv s), .p (.i .u32 t), .p (.i .u32 e)] (.p (dv (tagD s (keyM t e)))) := by
  refine Fn.intro (I := []) hX hm 0 Tryd.func73 rfl rfl (by kernel_rfl) rfl ?_
  have c1 := f110_ok (IntKind.u64.wrap t) 4 (by decide)
  have c2 := f110_ok (IntKind.u64.wrap e) 4 (by decide)
  have w1 := wr_u64 ht.1 (show t < 18446744073709551616 by omega)
  have w2 := wr_u64 he.1 (show e < 18446744073709551616 by omega)
  have c3 := f74_ok s (keyM t e) hs (keyM_byt t e) (by omega) (by rw [keyM_len]; decide)
  rw [show bvs s = .ro ush (((bv s).drop 0).take 32) from by rw [List.drop_zero, List.take_of_length_le (by rw [List.length_map, ls]; omega)]] at c3
  unfold tagD
  generalize ofB (mixK s 92 ++ ofB (mixK s 54 ++ keyM t e)) = d at *
  rw [show bvs (keyM t e) = .ro ush (([PV.i .u8 107] ++ bv (bytesU t 4)) ++ bv (bytesU e 4)) from by rw [show keyM t e = [107] ++ bytesU t 4 ++ bytesU e 4 from by simp [keyM], bvs, bv_app, bv_app]; rfl] at c3
  have l1 : (bytesU t 4).length = 4 := bytesU_length _ _
  have l2 : (bytesU e 4).length = 4 := bytesU_length _ _
  rw [← w1, ← w2] at c3 
  rw [← w1] at l1
  rw [← w2] at l2
  generalize bytesU (IntKind.u64.wrap t) 4 = m1 at *
  generalize bytesU (IntKind.u64.wrap e) 4 = m2 at *
  conv => whnf
  refine ⟨_, c1, ?_⟩
  conv => whnf
  conv => arg 2; repeat (first | rw [capN _ (by simp; omega)] | (whnf; arg 2))
  conv => whnf
  refine ⟨_, c2, ?_⟩
  conv => whnf
  conv => arg 2; repeat (first | rw [capN _ (by simp; omega)] | (whnf; arg 2))
  conv => whnf
  refine ⟨_, c3, ?_⟩
  rfl
theorem f26_ok (s : List Int) (t e : Int) (hs : byt s) (ls : s.length = 32) (ht : 0 ≤ t ∧ t < 4294967296) (he : 0 ≤ e ∧ e < 4294967296) :
    Fn Tryd.prog X.G 26 [.p (dv s), .p (.i .u32 t), .p (.i .u32 e)] (.tup [.p (dv (keyD s t e)), .p (.i .i64 (keyE t e))]) := by
  refine Fn.intro (I := []) hX hm 0 Tryd.func26 rfl rfl (by kernel_rfl) rfl ?_
  have c1 := f52_ok t e
  have c2 := f73_ok s t e hs ls ht he
  unfold keyD keyE
  generalize isK t e = p at *
  generalize tagD s (keyM t e) = d at *
  cases p
  · rw [if_neg (by decide), if_neg (by decide)]
    conv => whnf
    refine ⟨_, c1, ?_⟩
    conv => whnf
    refine iteF rfl ?_
    rfl
  · rw [if_pos rfl, if_pos rfl]
    conv => whnf
    refine ⟨_, c1, ?_⟩
    conv => whnf
    refine iteT rfl ?_
    conv => whnf
    refine ⟨_, c2, ?_⟩
    rfl
theorem f25_ok (s : List Int) (t e : Int) (hs : byt s) (ls : s.length = 32) (ht : 0 ≤ t ∧ t < 4294967296) (he : 0 ≤ e ∧ e < 4294967296) :
    Fn Tryd.prog X.G 25 [.p (dv s), .p (.i .u32 t), .p (.i .u32 e)] (.tup [.p (dv (keyD s t e)), .p (.i .i64 (keyE t e))]) := by
  refine Fn.intro (I := []) hX hm 0 Tryd.func25 rfl rfl (by kernel_rfl) rfl ?_
  have c1 := f64_ok (keyR t e) (keyR_ok ht he) (by simp [keyR])
  rw [keyR_fine ht he, rowL_eq (keyR_fine ht he), keyR_flat] at c1
  have c3 := f39_ok s (keyM t e) hs (keyM_byt t e) (by rw [keyM_len]; decide)
  rw [(mac_tag (k := s) (m := keyM t e) (by omega) (by rw [keyM_len]; decide)).1, (mac_tag (k := s) (m := keyM t e) (by omega) (by rw [keyM_len]; decide)).2] at c3
  rw [show bvs s = .ro ush (((bv s).drop 0).take 32) from by rw [List.drop_zero, List.take_of_length_le (by rw [List.length_map, ls]; omega)]] at c3
  have w1 := wr_u64 ht.1 (show t < 18446744073709551616 by omega)
  have w2 := wr_u64 he.1 (show e < 18446744073709551616 by omega)
  rw [show keyR t e = [numF 2 107, numF 4 (IntKind.u64.wrap t), numF 4 (IntKind.u64.wrap e)] from by rw [w1, w2]; rfl] at c1
  unfold keyD keyE isK
  generalize tagD s (keyM t e) = d at *
  generalize keyM t e = m at *
  conv => whnf
  refine iteC (fun h => ?_) (fun h => ?_)
  · have h := of_decide_eq_true h
    rw [decide_eq_false (show ¬ t < 16 by omega)]
    rfl
  have h := of_decide_eq_false h
  rw [decide_eq_true (show t < 16 by omega)]
  conv => whnf
  refine iteC (fun h2 => ?_) (fun h2 => ?_)
  · have h2 := of_decide_eq_true h2
    rw [decide_eq_false (show ¬ e ≤ 1000000 by omega)]
    rfl
  have h2 := of_decide_eq_false h2
  rw [decide_eq_true (show e ≤ 1000000 by omega)]
  conv => whnf
  refine ⟨_, c1, ?_⟩
  conv => whnf
  refine ⟨_, c3, ?_⟩
  rfl
def mintK (s : List Int) (t : Tk) : Tk := if isK t.t t.e = true then mintT (tagD s (keyM t.t t.e)) t else t0T
theorem f28_ok (s : List Int) (t : Tk) (hs : byt s) (ls : s.length = 32) (ht : t.ok) :
    Fn Tryd.prog X.G 28 [.p (dv s), .p (.i .u32 t.t), .p (.i .u32 t.u), .p (.i .u32 t.e), .p (.i .u64 t.x)] (.tup [.p (tkv (mintK s t)), .p (.i .i64 (keyE t.t t.e))]) := by
  refine Fn.intro (I := []) hX hm 0 Tryd.func28 rfl rfl (by kernel_rfl) rfl ?_
  have c1 := f52_ok t.t t.e
  have c2 := f73_ok s t.t t.e hs ls ht.t ht.e
  have c3 := f34_ok (tagD s (keyM t.t t.e)) t (tagD_byt _ _) (tagD_len _ _) ht
  unfold mintK keyE
  generalize isK t.t t.e = p at *
  generalize mintT (tagD s (keyM t.t t.e)) t = w at *
  generalize tagD s (keyM t.t t.e) = d at *
  cases p
  · rw [if_neg (by decide), if_neg (by decide)]
    conv => whnf
    refine ⟨_, c1, ?_⟩
    conv => whnf
    refine iteF rfl ?_
    rfl
  · rw [if_pos rfl, if_pos rfl]
    conv => whnf
    refine ⟨_, c1, ?_⟩
    conv => whnf
    refine iteT rfl ?_
    conv => whnf
    refine ⟨_, c2, ?_⟩
    conv => whnf
    refine ⟨_, c3, ?_⟩
    rfl
theorem f27_ok (s : List Int) (t : Tk) (hs : byt s) (ls : s.length = 32) (ht : t.ok) :
    Fn Tryd.prog X.G 27 [.p (dv s), .p (.i .u32 t.t), .p (.i .u32 t.u), .p (.i .u32 t.e), .p (.i .u64 t.x)] (.tup [.p (tkv (mintK s t)), .p (.i .i64 (keyE t.t t.e))]) := by
  refine Fn.intro (I := []) hX hm 0 Tryd.func27 rfl rfl (by kernel_rfl) rfl ?_
  have c2 := f25_ok s t.t t.e hs ls ht.t ht.e
  have c3 := f33_ok (tagD s (keyM t.t t.e)) t (tagD_byt _ _) (tagD_len _ _) ht
  unfold keyD keyE at c2
  unfold mintK keyE
  generalize isK t.t t.e = p at *
  generalize mintT (tagD s (keyM t.t t.e)) t = w at *
  generalize tagD s (keyM t.t t.e) = d at *
  cases p
  · rw [if_neg (by decide), if_neg (by decide)] at c2
    rw [if_neg (by decide), if_neg (by decide)]
    conv => whnf
    refine ⟨_, c2, ?_⟩
    conv => whnf
    refine iteT rfl ?_
    rfl
  · rw [if_pos rfl, if_pos rfl] at c2
    rw [if_pos rfl, if_pos rfl]
    conv => whnf
    refine ⟨_, c2, ?_⟩
    conv => whnf
    refine iteF rfl ?_
    conv => whnf
    refine ⟨_, c3, ?_⟩
    rfl
def cmdD (s : List Int) : List Int := tagD s [97]
theorem f29_ok (s : List Int) (hs : byt s) (ls : s.length = 32) : Fn Tryd.prog X.G 29 [.p (dv s)] (.p (dv (cmdD s))) := by
  refine Fn.intro (I := []) hX hm 0 Tryd.func29 rfl rfl (by kernel_rfl) rfl ?_
  have c3 := f39_ok s [97] hs (byt_allT rfl) (by decide)
  rw [(mac_tag (k := s) (m := [97]) (by omega) (by decide)).1, (mac_tag (k := s) (m := [97]) (by omega) (by decide)).2] at c3
  rw [show bvs s = .ro ush (((bv s).drop 0).take 32) from by rw [List.drop_zero, List.take_of_length_le (by rw [List.length_map, ls]; omega)]] at c3
  unfold cmdD
  generalize tagD s [97] = d at *
  conv => whnf
  refine ⟨_, c3, ?_⟩
  rfl
theorem f30_ok (s : List Int) (hs : byt s) (ls : s.length = 32) : Fn Tryd.prog X.G 30 [.p (dv s)] (.p (dv (cmdD s))) := by
  refine Fn.intro (I := []) hX hm 0 Tryd.func30 rfl rfl (by kernel_rfl) rfl ?_
  have c3 := f74_ok s [97] hs (byt_allT rfl) (by omega) (by decide)
  rw [show bvs s = .ro ush (((bv s).drop 0).take 32) from by rw [List.drop_zero, List.take_of_length_le (by rw [List.length_map, ls]; omega)]] at c3
  unfold cmdD tagD
  generalize ofB (mixK s 92 ++ ofB (mixK s 54 ++ [97])) = d at *
  conv => whnf
  refine ⟨_, c3, ?_⟩
  rfl
set_option maxHeartbeats 4000000 in
theorem f4_ok (s : List Int) (t : Tk) (hs : byt s) (ls : s.length = 32) (ht : t.ok) :
    Fn Tryd.prog X.G 4 [.p (dv s), .p (.i .u32 t.t), .p (.i .u32 t.u), .p (.i .u32 t.e), .p (.i .u64 t.x)] (.p (.b true)) := by
  refine Fn.intro (I := []) hX hm 0 Tryd.func4 rfl rfl (by kernel_rfl) rfl ?_
  have c1 := f25_ok s t.t t.e hs ls ht.t ht.e
  have c2 := f26_ok s t.t t.e hs ls ht.t ht.e
  have c3 := f27_ok s t hs ls ht
  have c4 := f28_ok s t hs ls ht
  have c5 := f29_ok s hs ls
  have c6 := f30_ok s hs ls
  generalize keyD s t.t t.e = d at *
  generalize keyE t.t t.e = e at *
  generalize mintK s t = w at *
  generalize cmdD s = q at *
  conv => whnf
  refine ⟨_, c1, ?_⟩
  conv => whnf
  refine ⟨_, c2, ?_⟩
  conv => whnf
  refine ⟨_, c3, ?_⟩
  conv => whnf
  refine ⟨_, c4, ?_⟩
  conv => whnf
  refine iteT (same_dvT d) ?_
  conv => whnf
  refine iteT (beq_self_eq_true _) ?_
  conv => whnf
  refine iteT (sameT w) ?_
  conv => whnf
  refine iteT (beq_self_eq_true _) ?_
  conv => whnf
  refine ⟨_, c5, ?_⟩
  conv => whnf
  refine ⟨_, c6, ?_⟩
  conv => whnf
  refine iteT (same_dvT q) ?_
  rfl
end Go.Proofs.YtkcnchlahhlkfaaDoor.AM
