/- Tokens: messages, tags, what is minted and verified. -/
import Derived.Test.YtipmkjfbdflneaaDoorpTokS
import Derived.Test.YtipmkjfbdflneaaDoorMacD
namespace Go.Proofs.YtipmkjfbdflneaaDoor.AM
open Go Go.Proofs
set_option maxRecDepth 100000

abbrev dv20 (l : List Int) : PV := .arr 20 ush (bv l)
def tagD (k m : List Int) : List Int := ofB (mixK k 92 ++ ofB (mixK k 54 ++ m))
theorem tagD_byt (k m : List Int) : byt (tagD k m) := ofB_byt _
theorem tagD_len (k m : List Int) : (tagD k m).length = 32 := rfl
theorem mac_tag {k m : List Int} (hk : k.length ≤ 200) (hm : m.length ≤ 127936) : macD k m = tagD k m ∧ inE k m = 0 :=
  ⟨by unfold macD tagD; rw [if_neg (by omega)], by unfold inE; rw [if_neg (by omega)]⟩
theorem msgT_byt (t : Tk) : byt (msgT t) := byt_append (byt_append (bytesU_byt8 _ _) (bytesU_byt8 _ _)) (byt_append (bytesU_byt8 _ _) (bytesU_byt8 _ _))
theorem f41_ok (t : Tk) (h : t.ok) : Fn Tryd.prog X.G 41 [.p (tkv t)] (.p (dv20 (msgT t))) := by
  refine Fn.intro (I := []) hX hm 0 Tryd.func41 rfl rfl (by kernel_rfl) rfl ?_
  have c := f30_ok t h
  have hl := bytesT_len h
  have e : List.take 20 (List.drop 0 (bv (bytesT t))) = bv (msgT t) := by
    rw [List.drop_zero, bytesT, bv_app, List.take_left' (by rw [List.length_map, msgT_len])]
  have z1 : (20 : Int) ≤ ((bv (bytesT t)).length : Int) := by rw [List.length_map, hl]; decide
  have y1 := decide_eq_true z1
  generalize bytesT t = b at *
  conv => whnf
  refine ⟨_, c, ?_⟩
  conv => whnf
  iterate 2 (conv => arg 2; repeat (first | rw [y1] | rw [leT z1] | (whnf; arg 2))
             conv => whnf)
  show some (AV.p (.arr 20 ush (List.take 20 (List.drop 0 (bv b))))) = some (.p (dv20 (msgT t)))
  rw [e]
theorem f60_ok (k : List Int) (t : Tk) (hk : byt k) (lk : k.length = 32) (h : t.ok) : Fn Tryd.prog X.G 60 [.p (dv k), .p (tkv t)] (.p (dv (tagD k (msgT t)))) := by
  refine Fn.intro (I := []) hX hm 0 Tryd.func60 rfl rfl (by kernel_rfl) rfl ?_
  have c1 := f41_ok t h
  have hl := msgT_len t
  have c2 := f58_ok k (msgT t) hk (msgT_byt t) (by omega)
  rw [(mac_tag (k := k) (m := msgT t) (by omega) (by omega)).1, (mac_tag (k := k) (m := msgT t) (by omega) (by omega)).2] at c2
  rw [show bvs k = .ro ush (((bv k).drop 0).take 32) from by rw [List.drop_zero, List.take_of_length_le (by rw [List.length_map, lk]; omega)], show bvs (msgT t) = .ro ush (((bv (msgT t)).drop 0).take 20) from by rw [List.drop_zero, List.take_of_length_le (by rw [List.length_map, hl]; omega)]] at c2
  generalize tagD k (msgT t) = d at *
  generalize msgT t = m at *
  conv => whnf
  refine ⟨_, c1, ?_⟩
  conv => whnf
  refine ⟨_, c2, ?_⟩
  rfl
def bareT (t : Tk) : Tk := ⟨t.t, t.u, t.e, t.x, zd⟩
def mintT (k : List Int) (t : Tk) : Tk := ⟨t.t, t.u, t.e, t.x, tagD k (msgT t)⟩
theorem bareT_ok {t : Tk} (h : t.ok) : (bareT t).ok := ⟨h.t, h.u, h.e, h.x, ⟨rfl, fun x hx => by rw [bareT, List.mem_replicate] at hx; rw [hx.2]; decide⟩⟩
theorem mint_ok {k : List Int} {t : Tk} (h : t.ok) : (mintT k t).ok := ⟨h.t, h.u, h.e, h.x, ⟨tagD_len _ _, tagD_byt _ _⟩⟩
theorem f53_ok (k : List Int) (t : Tk) (hk : byt k) (lk : k.length = 32) (h : t.ok) : Fn Tryd.prog X.G 53 [.p (dv k), .p (.i .u32 t.t), .p (.i .u32 t.u), .p (.i .u32 t.e), .p (.i .u64 t.x)] (.p (tkv (mintT k t))) := by
  refine Fn.intro (I := []) hX hm 0 Tryd.func53 rfl rfl (by kernel_rfl) rfl ?_
  have c := f60_ok k (bareT t) hk lk (bareT_ok h)
  rw [show msgT (bareT t) = msgT t from rfl] at c
  unfold mintT
  generalize tagD k (msgT t) = d at *
  conv => whnf
  refine ⟨_, c, ?_⟩
  rfl
def verE (k : List Int) (t : Tk) : Int := if tagD k (msgT t) = t.d then 0 else 22
def valE (k : List Int) (t : Tk) (y : Int) : Int := if tagD k (msgT t) = t.d then (if y > t.x then 24 else 0) else 22
theorem f27_ok (k : List Int) (t : Tk) (hk : byt k) (lk : k.length = 32) (h : t.ok) : Fn Tryd.prog X.G 27 [.p (dv k), .p (tkv t)] (.p (.i .i64 (verE k t))) := by
  refine Fn.intro (I := []) hX hm 0 Tryd.func27 rfl rfl (by kernel_rfl) rfl ?_
  have c := f60_ok k t hk lk h
  have c2 := f25_ok (tagD k (msgT t)) t.d (tagD_len _ _) h.d.1 (tagD_byt _ _) h.d.2
  have hs := same_dv (tagD k (msgT t)) t.d
  unfold verE
  generalize tagD k (msgT t) = d at *
  by_cases he : d = t.d
  · rw [if_pos he]
    rw [decide_eq_true he] at c2 hs
    conv => whnf
    refine ⟨_, c, ?_⟩
    conv => whnf
    refine ⟨_, c2, ?_⟩
    conv => whnf
    refine iteT rfl ?_
    conv => whnf
    refine iteF (by show (!PV.same (dv d) (dv t.d)) = false; rw [hs]; rfl) ?_
    rfl
  · rw [if_neg he]
    rw [decide_eq_false he] at c2
    conv => whnf
    refine ⟨_, c, ?_⟩
    conv => whnf
    refine ⟨_, c2, ?_⟩
    conv => whnf
    refine iteF rfl ?_
    rfl
end Go.Proofs.YtipmkjfbdflneaaDoor.AM
