/- Tokens: messages, tags, what is minted and verified. -/
import Derived.Test.YtkcnchlahhlkfaaDoorpTokS
import Derived.Test.YtkcnchlahhlkfaaDoorMacD
namespace Go.Proofs.YtkcnchlahhlkfaaDoor.AM
open Go Go.Proofs
set_option maxRecDepth 100000

abbrev dv20 (l : List Int) : PV := .arr 20 ush (bv l)
def tagD (k m : List Int) : List Int := ofB (mixK k 92 ++ ofB (mixK k 54 ++ m))
theorem tagD_byt (k m : List Int) : byt (tagD k m) := ofB_byt _
theorem tagD_len (k m : List Int) : (tagD k m).length = 32 := rfl
theorem mac_tag {k m : List Int} (hk : k.length ≤ 200) (hm : m.length ≤ 127936) : macD k m = tagD k m ∧ inE k m = 0 :=
  ⟨by unfold macD tagD; rw [if_neg (by omega)], by unfold inE; rw [if_neg (by omega)]⟩
theorem msgT_byt (t : Tk) : byt (msgT t) := byt_append (byt_append (bytesU_byt8 _ _) (bytesU_byt8 _ _)) (byt_append (bytesU_byt8 _ _) (bytesU_byt8 _ _))
theorem f31_ok (t : Tk) (h : t.ok) : Fn Tryd.prog X.G 31 [.p (tkv t)] (.p (dv20 (msgT t))) := by
  refine Fn.intro (I := []) hX hm 0 Tryd.func31 rfl rfl (by kernel_rfl) rfl ?_
  have c := f42_ok t h
  have hl := bytesT_len h
  have e : List.take 20 (List.drop 0 (bv (bytesT t))) = bv (msgT t) := by
    rw [List.drop_zero, bytesT, bv_app, List.take_left' (by rw [List.length_map, msgT_len])]
  have z1 : (20 : Int) ≤ ((bv (bytesT t)).length : Int) := by rw [List.length_map, hl]; decide
  have y1 := decide_eq_true z1
  generalize bytesT t = b at *
  conv => whnf
  refine ⟨_, c, ?_⟩
  conv => whnf
  iterate 2 (conv => arg 2; repeat (first | rw [y1] | rw [leT z1] | (whnf; arg 2))
             conv => whnf)
  show some (AV.p (.arr 20 ush (List.take 20 (List.drop 0 (bv b))))) = some (.p (dv20 (msgT t)))
  rw [e]
theorem f32_ok (t : Tk) (h : t.ok) : Fn Tryd.prog X.G 32 [.p (tkv t)] (.p (dv20 (msgT t))) := by
  refine Fn.intro (I := []) hX hm 0 Tryd.func32 rfl rfl (by kernel_rfl) rfl ?_
  have c := f75_ok t h
  have hl := msgT_len t
  generalize msgT t = m at *
  conv => whnf
  refine ⟨_, c, ?_⟩
  conv => whnf
  refine LoopJ.intro (I := []) (base' := 0) hX hm (by kernel_rfl) (σ := Nat) (fun i => [(2, .ptr 16 []), (3, .ptr 24 []), (4, .own 56), (5, .p (.i .i64 i))])
    (fun i => [(16, .var (.p (dv20 (List.replicate 20 0)))), (24, .var (.p (dv20 (m.take i ++ List.replicate (20 - i) 0)))), (56, .els true ush (bv m))]) (fun i => i ≤ 20) (fun i => 20 - i) 0 []
    (by omega) ⟨nofun, rfl, ⟨rfl, rfl, rfl, rfl, rfl, rfl, rfl, rfl, trivial⟩, ⟨rfl, rfl, rfl, rfl, rfl, rfl, trivial⟩⟩ ?_
  intro i hi
  conv => whnf
  refine iteC (fun h2 => ?_) (fun h2 => ?_)
  · have h2 := of_decide_eq_true h2
    have hp : i < m.length := by omega
    have gp := getM (f := PV.i .u8) hp
    have np := nthM (f := PV.i .u8) hp
    have hL1 : (m.take i).length = i := by simp; omega
    have m1 := mid_get8 (x := 0) (R := List.replicate (19 - i) 0) hL1
    have m2 := mid_nth8 (x := 0) (R := List.replicate (19 - i) 0) hL1
    have m3 := mid_set8 (x := 0) (v := m[i]) (R := List.replicate (19 - i) 0) hL1
    have hT1 : m.take (i + 1) ++ List.replicate (20 - (i + 1)) 0 = m.take i ++ m[i] :: List.replicate (19 - i) 0 := by
      rw [List.take_add_one, List.getElem?_eq_getElem hp, List.append_assoc, show 20 - (i + 1) = 19 - i by omega]
      rfl
    rw [rep_cons (show 20 - i = (19 - i) + 1 by omega)]
    conv => whnf
    iterate 5 (conv => arg 2; repeat (first | rw [gp] | rw [np] | rw [m1] | rw [m2] | (whnf; arg 2))
               conv => whnf)
    refine ⟨i + 1, [], by omega, by dsimp only; omega, nofun, rfl, ⟨rfl, rfl, rfl, rfl, rfl, rfl, incN (by omega), rfl, trivial⟩, ⟨rfl, rfl, ?_, rfl, rfl, rfl, trivial⟩⟩
    show some (Blk.var (.p (.arr 20 ush ((bv (m.take i ++ 0 :: List.replicate (19 - i) 0)).set (i : Int).toNat (.i .u8 m[i]))))) = some (Blk.var (.p (dv20 (m.take (i + 1) ++ List.replicate (20 - (i + 1)) 0))))
    rw [m3, hT1]
  · have h2 := of_decide_eq_false h2
    obtain rfl : i = 20 := by omega
    show some (AV.p (dv20 (m.take 20 ++ []))) = some (AV.p (dv20 m))
    rw [List.append_nil, List.take_of_length_le (by omega)]
theorem f76_ok (k : List Int) (t : Tk) (hk : byt k) (lk : k.length = 32) (h : t.ok) : Fn Tryd.prog X.G 76 [.p (dv k), .p (tkv t)] (.p (dv (tagD k (msgT t)))) := by
  refine Fn.intro (I := []) hX hm 0 Tryd.func76 rfl rfl (by kernel_rfl) rfl ?_
  have c1 := f31_ok t h
  have hl := msgT_len t
  have c2 := f39_ok k (msgT t) hk (msgT_byt t) (by omega)
  rw [(mac_tag (k := k) (m := msgT t) (by omega) (by omega)).1, (mac_tag (k := k) (m := msgT t) (by omega) (by omega)).2] at c2
  rw [show bvs k = .ro ush (((bv k).drop 0).take 32) from by rw [List.drop_zero, List.take_of_length_le (by rw [List.length_map, lk]; omega)], show bvs (msgT t) = .ro ush (((bv (msgT t)).drop 0).take 20) from by rw [List.drop_zero, List.take_of_length_le (by rw [List.length_map, hl]; omega)]] at c2
  generalize tagD k (msgT t) = d at *
  generalize msgT t = m at *
  conv => whnf
  refine ⟨_, c1, ?_⟩
  conv => whnf
  refine ⟨_, c2, ?_⟩
  rfl
theorem f77_ok (k : List Int) (t : Tk) (hk : byt k) (lk : k.length = 32) (h : t.ok) : Fn Tryd.prog X.G 77 [.p (dv k), .p (tkv t)] (.p (dv (tagD k (msgT t)))) := by
  refine Fn.intro (I := []) hX hm 0 Tryd.func77 rfl rfl (by kernel_rfl) rfl ?_
  have c1 := f75_ok t h
  have hl := msgT_len t
  have c2 := f74_ok k (msgT t) hk (msgT_byt t) (by omega) (by omega)
  rw [show bvs k = .ro ush (((bv k).drop 0).take 32) from by rw [List.drop_zero, List.take_of_length_le (by rw [List.length_map, lk]; omega)]] at c2
  unfold tagD
  generalize ofB (mixK k 92 ++ ofB (mixK k 54 ++ msgT t)) = d at *
  generalize msgT t = m at *
  conv => whnf
  refine ⟨_, c1, ?_⟩
  conv => whnf
  refine ⟨_, c2, ?_⟩
  rfl
def bareT (t : Tk) : Tk := ⟨t.t, t.u, t.e, t.x, zd⟩
def mintT (k : List Int) (t : Tk) : Tk := ⟨t.t, t.u, t.e, t.x, tagD k (msgT t)⟩
theorem bareT_ok {t : Tk} (h : t.ok) : (bareT t).ok := ⟨h.t, h.u, h.e, h.x, ⟨rfl, fun x hx => by rw [bareT, List.mem_replicate] at hx; rw [hx.2]; decide⟩⟩
theorem mint_ok {k : List Int} {t : Tk} (h : t.ok) : (mintT k t).ok := ⟨h.t, h.u, h.e, h.x, ⟨tagD_len _ _, tagD_byt _ _⟩⟩
theorem f33_ok (k : List Int) (t : Tk) (hk : byt k) (lk : k.length = 32) (h : t.ok) : Fn Tryd.prog X.G 33 [.p (dv k), .p (.i .u32 t.t), .p (.i .u32 t.u), .p (.i .u32 t.e), .p (.i .u64 t.x)] (.p (tkv (mintT k t))) := by
  refine Fn.intro (I := []) hX hm 0 Tryd.func33 rfl rfl (by kernel_rfl) rfl ?_
  have c := f76_ok k (bareT t) hk lk (bareT_ok h)
  rw [show msgT (bareT t) = msgT t from rfl] at c
  unfold mintT
  generalize tagD k (msgT t) = d at *
  conv => whnf
  refine ⟨_, c, ?_⟩
  rfl
theorem f34_ok (k : List Int) (t : Tk) (hk : byt k) (lk : k.length = 32) (h : t.ok) : Fn Tryd.prog X.G 34 [.p (dv k), .p (.i .u32 t.t), .p (.i .u32 t.u), .p (.i .u32 t.e), .p (.i .u64 t.x)] (.p (tkv (mintT k t))) := by
  refine Fn.intro (I := []) hX hm 0 Tryd.func34 rfl rfl (by kernel_rfl) rfl ?_
  have c := f77_ok k (bareT t) hk lk (bareT_ok h)
  rw [show msgT (bareT t) = msgT t from rfl] at c
  unfold mintT
  generalize tagD k (msgT t) = d at *
  conv => whnf
  refine ⟨_, c, ?_⟩
  rfl
def verE (k : List Int) (t : Tk) : Int := if tagD k (msgT t) = t.d then 0 else 22
def valE (k : List Int) (t : Tk) (y : Int) : Int := if tagD k (msgT t) = t.d then (if y > t.x then 24 else 0) else 22
theorem f35_ok (k : List Int) (t : Tk) (hk : byt k) (lk : k.length = 32) (h : t.ok) : Fn Tryd.prog X.G 35 [.p (dv k), .p (tkv t)] (.p (.i .i64 (verE k t))) := by
  refine Fn.intro (I := []) hX hm 0 Tryd.func35 rfl rfl (by kernel_rfl) rfl ?_
  have c := f76_ok k t hk lk h
  have c2 := f53_ok (tagD k (msgT t)) t.d (tagD_len _ _) h.d.1 (tagD_byt _ _) h.d.2
  have hs := same_dv (tagD k (msgT t)) t.d
  unfold verE
  generalize tagD k (msgT t) = d at *
  by_cases he : d = t.d
  · rw [if_pos he]
    rw [decide_eq_true he] at c2 hs
    conv => whnf
    refine ⟨_, c, ?_⟩
    conv => whnf
    refine ⟨_, c2, ?_⟩
    conv => whnf
    refine iteT rfl ?_
    conv => whnf
    refine iteF (by show (!PV.same (dv d) (dv t.d)) = false; rw [hs]; rfl) ?_
    rfl
  · rw [if_neg he]
    rw [decide_eq_false he] at c2
    conv => whnf
    refine ⟨_, c, ?_⟩
    conv => whnf
    refine ⟨_, c2, ?_⟩
    conv => whnf
    refine iteF rfl ?_
    rfl
theorem f36_ok (k : List Int) (t : Tk) (hk : byt k) (lk : k.length = 32) (h : t.ok) : Fn Tryd.prog X.G 36 [.p (dv k), .p (tkv t)] (.p (.i .i64 (verE k t))) := by
  refine Fn.intro (I := []) hX hm 0 Tryd.func36 rfl rfl (by kernel_rfl) rfl ?_
  have c := f77_ok k t hk lk h
  have hs := same_dv t.d (tagD k (msgT t))
  unfold verE
  generalize tagD k (msgT t) = d at *
  conv => whnf
  refine ⟨_, c, ?_⟩
  conv => whnf
  by_cases he : d = t.d
  · rw [if_pos he]
    refine iteF (by show (!PV.same (dv t.d) (dv d)) = false; rw [hs, decide_eq_true he.symm]; rfl) ?_
    rfl
  · rw [if_neg he]
    refine iteT (by show (!PV.same (dv t.d) (dv d)) = true; rw [hs, decide_eq_false (Ne.symm he)]; rfl) ?_
    rfl
theorem f37_ok (k : List Int) (t : Tk) (y : Int) (hk : byt k) (lk : k.length = 32) (h : t.ok) : Fn Tryd.prog X.G 37 [.p (dv k), .p (tkv t), .p (.i .u64 y)] (.p (.i .i64 (valE k t y))) := by
  refine Fn.intro (I := []) hX hm 0 Tryd.func37 rfl rfl (by kernel_rfl) rfl ?_
  have c := f35_ok k t hk lk h
  unfold verE at c
  unfold valE
  by_cases he : tagD k (msgT t) = t.d
  · rw [if_pos he] at c
    rw [if_pos he]
    conv => whnf
    refine ⟨_, c, ?_⟩
    conv => whnf
    refine iteF rfl ?_
    conv => whnf
    refine iteC (fun h => ?_) (fun h => ?_)
    · rw [if_pos (of_decide_eq_true h)]
      rfl
    · rw [if_neg (of_decide_eq_false h)]
      rfl
  · rw [if_neg he] at c
    rw [if_neg he]
    conv => whnf
    refine ⟨_, c, ?_⟩
    conv => whnf
    refine iteT rfl ?_
    rfl
theorem f38_ok (k : List Int) (t : Tk) (y : Int) (hk : byt k) (lk : k.length = 32) (h : t.ok) : Fn Tryd.prog X.G 38 [.p (dv k), .p (tkv t), .p (.i .u64 y)] (.p (.i .i64 (valE k t y))) := by
  refine Fn.intro (I := []) hX hm 0 Tryd.func38 rfl rfl (by kernel_rfl) rfl ?_
  have c := f36_ok k t hk lk h
  unfold verE at c
  unfold valE
  by_cases he : tagD k (msgT t) = t.d
  · rw [if_pos he] at c
    rw [if_pos he]
    conv => whnf
    refine ⟨_, c, ?_⟩
    conv => whnf
    refine iteF rfl ?_
    conv => whnf
    refine iteC (fun h => ?_) (fun h => ?_)
    · have h := of_decide_eq_true h
      rw [if_pos (by omega)]
      rfl
    · have h := of_decide_eq_false h
      rw [if_neg (by omega)]
      rfl
  · rw [if_neg he] at c
    rw [if_neg he]
    conv => whnf
    refine ⟨_, c, ?_⟩
    conv => whnf
    refine iteT rfl ?_
    rfl
end Go.Proofs.YtkcnchlahhlkfaaDoor.AM
