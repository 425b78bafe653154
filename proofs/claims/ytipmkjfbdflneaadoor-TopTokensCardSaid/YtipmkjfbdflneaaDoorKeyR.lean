/- Tokens and keys. -/
import Derived.Test.YtipmkjfbdflneaaDoorTkA
import Derived.Test.YtipmkjfbdflneaaDoorpFrameP
namespace Go.Proofs.YtipmkjfbdflneaaDoor.AM
open Go Go.Proofs
set_option maxRecDepth 100000

theorem same_arr (n : Nat) (a b : List Int) : PV.same (.arr n ush (bv a)) (.arr n ush (bv b)) = decide (a = b) := by
  simp only [PV.same, sameL_bv]
theorem byt_allT {l : List Int} (h : (l.all fun x => decide (0 ≤ x) && decide (x < 256)) = true) : byt l := fun x hx => by
  have := List.all_eq_true.1 h x hx
  simpa using this
def k0 : List Int := 7 :: (List.replicate 30 0 ++ [1])
def t0M : Tk := ⟨1, 2, 3, 258, zd⟩
theorem k0_byt : byt k0 := byt_allT rfl
theorem zd_byt : byt zd := byt_allT rfl
theorem t0M_ok : t0M.ok := ⟨by decide, by decide, by decide, by decide, ⟨rfl, zd_byt⟩⟩
theorem verE_mk (k : List Int) (t : Tk) (d : List Int) : verE k ⟨t.t, t.u, t.e, t.x, d⟩ = if tagD k (msgT t) = d then 0 else 22 := rfl
theorem valE_mk (k : List Int) (t : Tk) (d : List Int) (y : Int) : valE k ⟨t.t, t.u, t.e, t.x, d⟩ y = if tagD k (msgT t) = d then (if y > t.x then 24 else 0) else 22 := rfl
def d0M : List Int := [13, 103, 12, 186, 90, 255, 171, 147, 213, 180, 31, 87, 62, 95, 50, 22, 49, 103, 96, 89, 62, 59, 55, 101, 98, 69, 23, 41, 89, 253, 235, 31]
def d1M : List Int := [13, 103, 12, 186, 90, 255, 171, 147, 213, 180, 31, 87, 62, 95, 50, 22, 49, 103, 96, 89, 62, 59, 55, 101, 98, 69, 23, 41, 89, 253, 235, 30]
theorem d0M_eq : tagD k0 (msgT t0M) = d0M := by kernel_rfl
def m0M : List Int := [0, 0, 0, 1, 0, 0, 0, 2, 0, 0, 0, 3, 0, 0, 0, 0, 0, 0, 1, 2]
theorem m0M_eq : msgT t0M = m0M := by kernel_rfl
def w0M : Tk := ⟨1, 2, 3, 258, d0M⟩
def w1M : Tk := ⟨1, 2, 3, 258, d1M⟩
theorem w0M_ok : w0M.ok := ⟨by decide, by decide, by decide, by decide, ⟨rfl, byt_allT rfl⟩⟩
theorem w1M_ok : w1M.ok := ⟨by decide, by decide, by decide, by decide, ⟨rfl, byt_allT rfl⟩⟩
theorem mint0 : mintT k0 t0M = w0M := by unfold mintT; rw [d0M_eq]; rfl
theorem ver0 : verE k0 w0M = 0 := by unfold verE; rw [show msgT w0M = msgT t0M from rfl, d0M_eq]; exact if_pos rfl
theorem ver1 : verE k0 w1M = 22 := by unfold verE; rw [show msgT w1M = msgT t0M from rfl, d0M_eq]; exact if_neg (by decide)
theorem val0 : valE k0 w0M 258 = 0 := by unfold valE; rw [show msgT w0M = msgT t0M from rfl, d0M_eq, if_pos (show d0M = w0M.d from rfl)]; rfl
theorem val1 : valE k0 w0M 259 = 24 := by unfold valE; rw [show msgT w0M = msgT t0M from rfl, d0M_eq, if_pos (show d0M = w0M.d from rfl)]; rfl
theorem val2 : valE k0 w1M 259 = 22 := by unfold valE; rw [show msgT w1M = msgT t0M from rfl, d0M_eq]; exact if_neg (by decide)
theorem msgT_inj {t u : Tk} (ht : t.ok) (hu : u.ok) (h : msgT t = msgT u) : t.t = u.t ∧ t.u = u.u ∧ t.e = u.e ∧ t.x = u.x := by
  have h1 : bytesT (bareT t) = bytesT (bareT u) := by
    unfold bytesT
    rw [show msgT (bareT t) = msgT t from rfl, show msgT (bareT u) = msgT u from rfl, h]
    rfl
  have h2 := congrArg rdT h1
  rw [rd_bytesT (bareT_ok ht), rd_bytesT (bareT_ok hu)] at h2
  unfold bareT at h2
  injection h2 with e1 e2 e3 e4
  exact ⟨e1, e2, e3, e4⟩
theorem msgT_eq {t u : Tk} (h : t.t = u.t ∧ t.u = u.u ∧ t.e = u.e ∧ t.x = u.x) : msgT t = msgT u := by
  unfold msgT
  rw [h.1, h.2.1, h.2.2.1, h.2.2.2]
theorem mint_eq {k : List Int} {t u : Tk} (h : t.t = u.t ∧ t.u = u.u ∧ t.e = u.e ∧ t.x = u.x) : mintT k t = mintT k u := by
  unfold mintT
  rw [msgT_eq h, h.1, h.2.1, h.2.2.1, h.2.2.2]
theorem readT_back {t : Tk} (h : t.ok) : readT_ (bytesT t) = (t, 0) := by
  unfold readT_
  rw [if_pos (bytesT_len h), rd_bytesT h]
theorem bytesT_bytD {t : Tk} (h : t.ok) : byt (bytesT t) := byt_append (msgT_byt t) h.d.2
def eT : Tk := ⟨4294967295, 4294967295, 4294967295, 18446744073709551615, zd⟩
theorem eT_ok : eT.ok := ⟨by decide, by decide, by decide, by decide, ⟨rfl, zd_byt⟩⟩
def zT : Tk := ⟨0, 0, 0, 0, zd⟩
theorem zT_ok : zT.ok := ⟨by decide, by decide, by decide, by decide, ⟨rfl, zd_byt⟩⟩
def b0M : List Int := [0, 0, 0, 1, 0, 0, 0, 2, 0, 0, 0, 3, 0, 0, 0, 0, 0, 0, 1, 2, 13, 103, 12, 186, 90, 255, 171, 147, 213, 180, 31, 87, 62, 95, 50, 22, 49, 103, 96, 89, 62, 59, 55, 101, 98, 69, 23, 41, 89, 253, 235, 31]
theorem b0M_eq : bytesT w0M = b0M := by kernel_rfl
theorem e20 : msgT eT = List.replicate 20 255 := by kernel_rfl
theorem z20 : msgT zT = List.replicate 20 0 := by kernel_rfl
def isK (t e : Int) : Bool := decide (t < 16) && decide (e ≤ 1000000)
def keyM (t e : Int) : List Int := 107 :: (bytesU t 4 ++ bytesU e 4)
def keyR (t e : Int) : List Fd := [numF 2 107, numF 4 t, numF 4 e]
def keyD (s : List Int) (t e : Int) : List Int := if isK t e = true then tagD s (keyM t e) else zd
def keyE (t e : Int) : Int := if isK t e = true then 0 else 2
theorem keyM_byt (t e : Int) : byt (keyM t e) := by
  rw [show keyM t e = [107] ++ (bytesU t 4 ++ bytesU e 4) from rfl]
  exact byt_append (byt_allT rfl) (byt_append (bytesU_byt8 _ _) (bytesU_byt8 _ _))
theorem keyM_len (t e : Int) : (keyM t e).length = 9 := by simp [keyM, bytesU_length]
theorem keyR_ok {t e : Int} (ht : 0 ≤ t ∧ t < 4294967296) (he : 0 ≤ e ∧ e < 4294967296) : ∀ f ∈ keyR t e, f.ok := by
  intro f hf
  simp only [keyR, List.mem_cons, List.not_mem_nil, or_false] at hf
  rcases hf with rfl | rfl | rfl
  · exact numF_ok (by decide) (by decide)
  · exact numF_ok (by decide) (by omega)
  · exact numF_ok (by decide) (by omega)
theorem keyR_fine {t e : Int} (ht : 0 ≤ t ∧ t < 4294967296) (he : 0 ≤ e ∧ e < 4294967296) : rowE (keyR t e) = 0 := by
  refine row_of (by simp [keyR]) fun f hf => ?_
  simp only [keyR, List.mem_cons, List.not_mem_nil, or_false] at hf
  rcases hf with rfl | rfl | rfl <;> simp [badF, widK, mostK] <;> omega
theorem keyR_flat (t e : Int) : flatF (keyR t e) = keyM t e := by
  have e3 : ∀ n, oneF (numF 4 n) = bytesU n 4 := fun n => rfl
  have e4 : oneF (numF 2 107) = [107] := by kernel_rfl
  simp only [flatF, keyR, keyM, List.flatMap_cons, List.flatMap_nil, e3, e4, List.append_nil, List.singleton_append]
theorem f43_ok (t e : Int) : Fn Tryd.prog X.G 43 [.p (.i .u32 t), .p (.i .u32 e)] (.p (.b (isK t e))) := by
  refine Fn.intro (I := []) hX hm 0 Tryd.func43 rfl rfl (by kernel_rfl) rfl ?_
  unfold isK
  conv => whnf
  refine iteC (fun h => ?_) (fun h => ?_)
  · rw [h]
    conv => whnf
    refine iteC (fun h => ?_) (fun h => ?_)
    · rw [h]; rfl
    · rw [h]; rfl
  · rw [h]; rfl
theorem f26_ok (s : List Int) (t e : Int) (hs : byt s) (ls : s.length = 32) (ht : 0 ≤ t ∧ t < 4294967296) (he : 0 ≤ e ∧ e < 4294967296) :
    Fn Tryd.prog X.G 26 [.p (dv s), .p (.i .u32 t), .p (.i .u32 e)] (.tup [.p (dv (keyD s t e)), .p (.i .i64 (keyE t e))]) := by
  refine Fn.intro (I := []) hX hm 0 Tryd.func26 rfl rfl (by kernel_rfl) rfl ?_
  have c1 := f28_ok (keyR t e) (keyR_ok ht he) (by simp [keyR])
  rw [keyR_fine ht he, rowL_eq (keyR_fine ht he), keyR_flat] at c1
  have c3 := f58_ok s (keyM t e) hs (keyM_byt t e) (by rw [keyM_len]; decide)
  rw [(mac_tag (k := s) (m := keyM t e) (by omega) (by rw [keyM_len]; decide)).1, (mac_tag (k := s) (m := keyM t e) (by omega) (by rw [keyM_len]; decide)).2] at c3
  rw [show bvs s = .ro ush (((bv s).drop 0).take 32) from by rw [List.drop_zero, List.take_of_length_le (by rw [List.length_map, ls]; omega)]] at c3
  have w1 := wr_u64 ht.1 (show t < 18446744073709551616 by omega)
  have w2 := wr_u64 he.1 (show e < 18446744073709551616 by omega)
  rw [show keyR t e = [numF 2 107, numF 4 (IntKind.u64.wrap t), numF 4 (IntKind.u64.wrap e)] from by rw [w1, w2]; rfl] at c1
  unfold keyD keyE isK
  generalize tagD s (keyM t e) = d at *
  generalize keyM t e = m at *
  conv => whnf
  refine iteC (fun h => ?_) (fun h => ?_)
  · have h := of_decide_eq_true h
    rw [decide_eq_false (show ¬ t < 16 by omega)]
    rfl
  have h := of_decide_eq_false h
  rw [decide_eq_true (show t < 16 by omega)]
  conv => whnf
  refine iteC (fun h2 => ?_) (fun h2 => ?_)
  · have h2 := of_decide_eq_true h2
    rw [decide_eq_false (show ¬ e ≤ 1000000 by omega)]
    rfl
  have h2 := of_decide_eq_false h2
  rw [decide_eq_true (show e ≤ 1000000 by omega)]
  conv => whnf
  refine ⟨_, c1, ?_⟩
  conv => whnf
  refine ⟨_, c3, ?_⟩
  rfl
def mintK (s : List Int) (t : Tk) : Tk := if isK t.t t.e = true then mintT (tagD s (keyM t.t t.e)) t else t0T
theorem f20_ok (s : List Int) (t : Tk) (hs : byt s) (ls : s.length = 32) (ht : t.ok) :
    Fn Tryd.prog X.G 20 [.p (dv s), .p (.i .u32 t.t), .p (.i .u32 t.u), .p (.i .u32 t.e), .p (.i .u64 t.x)] (.tup [.p (tkv (mintK s t)), .p (.i .i64 (keyE t.t t.e))]) := by
  refine Fn.intro (I := []) hX hm 0 Tryd.func20 rfl rfl (by kernel_rfl) rfl ?_
  have c2 := f26_ok s t.t t.e hs ls ht.t ht.e
  have c3 := f53_ok (tagD s (keyM t.t t.e)) t (tagD_byt _ _) (tagD_len _ _) ht
  unfold keyD keyE at c2
  unfold mintK keyE
  generalize isK t.t t.e = p at *
  generalize mintT (tagD s (keyM t.t t.e)) t = w at *
  generalize tagD s (keyM t.t t.e) = d at *
  cases p
  · rw [if_neg (by decide), if_neg (by decide)] at c2
    rw [if_neg (by decide), if_neg (by decide)]
    conv => whnf
    refine ⟨_, c2, ?_⟩
    conv => whnf
    refine iteT rfl ?_
    rfl
  · rw [if_pos rfl, if_pos rfl] at c2
    rw [if_pos rfl, if_pos rfl]
    conv => whnf
    refine ⟨_, c2, ?_⟩
    conv => whnf
    refine iteF rfl ?_
    conv => whnf
    refine ⟨_, c3, ?_⟩
    rfl
def cmdD (s : List Int) : List Int := tagD s [97]
theorem f39_ok (s : List Int) (hs : byt s) (ls : s.length = 32) : Fn Tryd.prog X.G 39 [.p (dv s)] (.p (dv (cmdD s))) := by
  refine Fn.intro (I := []) hX hm 0 Tryd.func39 rfl rfl (by kernel_rfl) rfl ?_
  have c3 := f58_ok s [97] hs (byt_allT rfl) (by decide)
  rw [(mac_tag (k := s) (m := [97]) (by omega) (by decide)).1, (mac_tag (k := s) (m := [97]) (by omega) (by decide)).2] at c3
  rw [show bvs s = .ro ush (((bv s).drop 0).take 32) from by rw [List.drop_zero, List.take_of_length_le (by rw [List.length_map, ls]; omega)]] at c3
  unfold cmdD
  generalize tagD s [97] = d at *
  conv => whnf
  refine ⟨_, c3, ?_⟩
  rfl
theorem msgC_byt {c : Cm} (hc : c.ok) : byt (msgC c) := by
  have h1 : byt [2, c.op] := fun x hx => by
    simp only [List.mem_cons, List.not_mem_nil, or_false] at hx
    rcases hx with rfl | rfl
    · decide
    · exact hc.op
  have h2 : byt [c.us, c.en] := fun x hx => by
    simp only [List.mem_cons, List.not_mem_nil, or_false] at hx
    rcases hx with rfl | rfl
    · exact hc.us
    · exact hc.en
  unfold msgC
  repeat' first | exact h1 | exact h2 | exact bytesU_byt8 _ _ | apply byt_append
theorem cmdD_len (s : List Int) : (cmdD s).length = 32 := tagD_len _ _
theorem cmdD_byt (s : List Int) : byt (cmdD s) := tagD_byt _ _
def sgD (s : List Int) (c : Cm) : List Int := tagD (cmdD s) (msgC c)
def withD (c : Cm) (d : List Int) : Cm := ⟨c.op, c.t, c.u, c.l0, c.l1, c.l2, c.us, c.en, c.x, d⟩
def signC (s : List Int) (c : Cm) : Cm := if okC c then withD c (sgD s c) else c00
def signE (c : Cm) : Int := if okC c then 0 else 8
theorem f24_ok (s : List Int) (c : Cm) (hs : byt s) (ls : s.length = 32) (hc : c.ok) : Fn Tryd.prog X.G 24 [.p (dv s), .p (cmv c)] (.tup [.p (cmv (signC s c)), .p (.i .i64 (signE c))]) := by
  refine Fn.intro (I := []) hX hm 0 Tryd.func24 rfl rfl (by kernel_rfl) rfl ?_
  have c1 := f36_ok c hc
  have c2 := f39_ok s hs ls
  have lk := cmdD_len s
  have c3 := f58_ok (cmdD s) (msgC c) (cmdD_byt s) (msgC_byt hc) (by rw [msgC_len]; decide)
  rw [(mac_tag (k := cmdD s) (m := msgC c) (by omega) (by rw [msgC_len]; decide)).1, (mac_tag (k := cmdD s) (m := msgC c) (by omega) (by rw [msgC_len]; decide)).2] at c3
  rw [show bvs (cmdD s) = .ro ush (((bv (cmdD s)).drop 0).take 32) from by rw [List.drop_zero, List.take_of_length_le (by rw [List.length_map, lk]; omega)]] at c3
  unfold befC befE at c1
  unfold signC signE sgD
  by_cases h : okC c
  · rw [if_pos h, if_pos h] at c1
    rw [if_pos h, if_pos h]
    generalize tagD (cmdD s) (msgC c) = d at *
    generalize msgC c = m at *
    generalize cmdD s = k at *
    conv => whnf
    refine ⟨_, c1, ?_⟩
    conv => whnf
    refine iteF rfl ?_
    conv => whnf
    refine ⟨_, c2, ?_⟩
    conv => whnf
    refine ⟨_, c3, ?_⟩
    rfl
  · rw [if_neg h, if_neg h] at c1
    rw [if_neg h, if_neg h]
    conv => whnf
    refine ⟨_, c1, ?_⟩
    conv => whnf
    refine iteT rfl ?_
    rfl
def trueB (s : List Int) (f : Fr) : Bool := if f.k = 2 then decide (sgD s f.cm = f.cm.d) else (isK f.tk.t f.tk.e && decide (tagD (tagD s (keyM f.tk.t f.tk.e)) (msgT f.tk) = f.tk.d))
def rightB (s : List Int) (f : Fr) : Bool := if okF f then trueB s f else false
theorem okF_cmd {f : Fr} (h : okF f) (hk : f.k = 2) : okC f.cm := by
  unfold okF at h
  simp_all
theorem sgD_len (s : List Int) (c : Cm) : (sgD s c).length = 32 := tagD_len _ _
theorem sgD_byt (s : List Int) (c : Cm) : byt (sgD s c) := tagD_byt _ _
theorem f7_ok (s : List Int) (f : Fr) (hs : byt s) (ls : s.length = 32) (hf : f.ok) : Fn Tryd.prog X.G 7 [.p (dv s), .p (frv f)] (.tup [.p (.b (rightB s f)), .p (.i .i64 (chkFr f))]) := by
  refine Fn.intro (I := []) hX hm 0 Tryd.func7 rfl rfl (by kernel_rfl) rfl ?_
  have c1 := f23_ok f hf
  unfold chkFr at c1
  unfold chkFr rightB
  by_cases h : okF f
  · rw [if_pos h] at c1
    rw [if_pos h, if_pos h]
    unfold trueB
    by_cases hk : f.k = 2
    · have c2 := f24_ok s f.cm hs ls hf.cm
      have ho := okF_cmd h hk
      unfold signC signE withD at c2
      rw [if_pos ho, if_pos ho] at c2
      have c3 := f25_ok (sgD s f.cm) f.cm.d (sgD_len _ _) hf.cm.d.1 (sgD_byt _ _) hf.cm.d.2
      rw [if_pos hk]
      generalize sgD s f.cm = d at *
      generalize decide (d = f.cm.d) = b at *
      conv => whnf
      refine ⟨_, c1, ?_⟩
      conv => whnf
      refine iteF rfl ?_
      conv => whnf
      refine iteT (by simpa using hk) ?_
      conv => whnf
      refine ⟨_, c2, ?_⟩
      conv => whnf
      refine ⟨_, c3, ?_⟩
      cases b
      all_goals
        conv => whnf
        first | refine iteT rfl ?_ | refine iteF rfl ?_
        rfl
    · have c2 := f26_ok s f.tk.t f.tk.e hs ls hf.tk.t hf.tk.e
      have c3 := f27_ok (tagD s (keyM f.tk.t f.tk.e)) f.tk (tagD_byt _ _) (tagD_len _ _) hf.tk
      unfold verE at c3
      unfold keyD keyE at c2
      rw [if_neg hk]
      generalize isK f.tk.t f.tk.e = p at *
      generalize tagD s (keyM f.tk.t f.tk.e) = k at *
      generalize tagD k (msgT f.tk) = d at *
      cases p
      · rw [if_neg (by decide), if_neg (by decide)] at c2
        conv => whnf
        refine ⟨_, c1, ?_⟩
        conv => whnf
        refine iteF rfl ?_
        conv => whnf
        refine iteF (by simpa using hk) ?_
        conv => whnf
        refine ⟨_, c2, ?_⟩
        conv => whnf
        refine iteF rfl ?_
        rfl
      · rw [if_pos rfl, if_pos rfl] at c2
        by_cases he : d = f.tk.d
        all_goals
          first | rw [if_pos he] at c3; rw [decide_eq_true he] | rw [if_neg he] at c3; rw [decide_eq_false he]
          conv => whnf
          refine ⟨_, c1, ?_⟩
          conv => whnf
          refine iteF rfl ?_
          conv => whnf
          refine iteF (by simpa using hk) ?_
          conv => whnf
          refine ⟨_, c2, ?_⟩
          conv => whnf
          refine iteT rfl ?_
          conv => whnf
          refine ⟨_, c3, ?_⟩
          conv => whnf
          first | refine iteT rfl ?_ | refine iteF rfl ?_
          rfl
  · rw [if_neg h] at c1
    rw [if_neg h, if_neg h]
    conv => whnf
    refine ⟨_, c1, ?_⟩
    conv => whnf
    refine iteT rfl ?_
    rfl
end Go.Proofs.YtipmkjfbdflneaaDoor.AM
