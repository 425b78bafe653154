/- Mac: pads and sums. -/
import Derived.Test.YtipmkjfbdflneaaDoorMacA
import Derived.Test.YtipmkjfbdflneaaDoorShaM
namespace Go.Proofs.YtipmkjfbdflneaaDoor.AM
open Go Go.Proofs
set_option maxRecDepth 100000

def x8 (a b : Int) : Int := IntKind.u8.wrap (BitVec.ofInt IntKind.u8.bits a ^^^ BitVec.ofInt IntKind.u8.bits b).toNat
theorem x8_range (a b : Int) : 0 ≤ x8 a b ∧ x8 a b < 256 := u8_range _
def keyB (k : List Int) : List Int := if k.length > 64 then ofB k else k
def blockK (k : List Int) : List Int := keyB k ++ List.replicate (64 - (keyB k).length) 0
def mixK (k : List Int) (y : Int) : List Int := (blockK k).map fun x => x8 x y
theorem ofB_length (b : List Int) : (ofB b).length = 32 := rfl
theorem byW_byt (w s : Int) : 0 ≤ byW w s ∧ byW w s < 256 := by
  unfold byW
  simp [IntKind.wrap, IntKind.signed, IntKind.bits]
  omega
theorem digestV_byt (v : V8) : byt (digestV v) := by
  intro x hx
  simp only [digestV, List.mem_cons, List.not_mem_nil, or_false] at hx
  rcases hx with h | h | h | h | h | h | h | h | h | h | h | h | h | h | h | h | h | h | h | h | h | h | h | h | h | h | h | h | h | h | h | h <;> (rw [h]; exact byW_byt _ _)
theorem ofB_byt (b : List Int) : byt (ofB b) := digestV_byt _
theorem keyB_len {k : List Int} : (keyB k).length ≤ 64 := by
  unfold keyB
  split
  · rw [ofB_length]; decide
  · omega
theorem keyB_byt {k : List Int} (h : byt k) : byt (keyB k) := by
  unfold keyB
  split
  · exact ofB_byt _
  · exact h
theorem blockK_len (k : List Int) : (blockK k).length = 64 := by
  have := keyB_len (k := k)
  simp [blockK]
  omega
theorem mixK_len (k : List Int) (y : Int) : (mixK k y).length = 64 := by rw [mixK, List.length_map, blockK_len]
theorem mixK_byt (k : List Int) (y : Int) : byt (mixK k y) := fun x hx => by
  obtain ⟨z, _, rfl⟩ := List.mem_map.1 hx
  exact x8_range _ _
abbrev dv64 (l : List Int) : PV := .arr 64 ush (bv l)
theorem copy_block (k : List Int) : copyL (List.replicate 64 (PV.i .u8 0)) 0 64 (bv (keyB k)) = bv (blockK k) := by
  have h := keyB_len (k := k)
  unfold copyL blockK
  rw [List.take_zero, List.nil_append, List.take_of_length_le (l := bv (keyB k)) (by simpa using h), List.drop_replicate, bv_app, List.length_map, Nat.zero_add]
  simp
set_option maxHeartbeats 8000000 in
theorem f71_ok (k : List Int) (hk : byt k) : Fn Tryd.prog X.G 71 [bvs k] (.tup [.p (dv64 (if k.length > 200 then List.replicate 64 0 else mixK k 54)), .p (dv64 (if k.length > 200 then List.replicate 64 0 else mixK k 92)), .p (.i .i64 (if k.length > 200 then 4 else 0))]) := by
  refine Fn.intro (I := []) hX hm 0 Tryd.func71 rfl rfl (by kernel_rfl) rfl ?_
  conv => whnf
  refine iteC (fun h => ?_) (fun h => ?_)
  · have h := of_decide_eq_true h
    rw [List.length_map] at h
    rw [if_pos (by omega), if_pos (by omega), if_pos (by omega)]
    rfl
  have h := of_decide_eq_false h
  rw [List.length_map] at h
  rw [if_neg (by omega), if_neg (by omega), if_neg (by omega)]
  have hc := copy_block k
  have hb := blockK_len k
  conv => whnf
  refine iteC (fun h1 => ?_) (fun h1 => ?_)
  · have h1 := of_decide_eq_true h1
    rw [List.length_map] at h1
    have hK : keyB k = ofB k := by unfold keyB; rw [if_pos (by omega)]
    have cs := f72_ok k hk
    rw [show sumD k = ofB k from by unfold sumD; rw [if_neg (by omega)], show sumE k = 0 from by unfold sumE; rw [if_neg (by omega)], ← hK] at cs
    have hl : (keyB k).length = 32 := by rw [hK]; rfl
    rw [show bv (keyB k) = List.take 32 (List.drop 0 (bv (keyB k))) from by rw [List.drop_zero, List.take_of_length_le (by rw [List.length_map, hl]; omega)]] at hc
    unfold mixK
    generalize blockK k = B at *
    generalize keyB k = K at *
    conv => whnf
    refine ⟨_, cs, ?_⟩
    conv => whnf
    refine LoopJ.intro (I := []) (base' := 0) hX hm (by kernel_rfl) (σ := Nat) (fun i => [(2, .ptr 16 []), (3, .ptr 24 []), (28, .p (.i .i64 i))])
      (fun i => [(16, .var (.p (dv64 ((B.take i).map (fun x => x8 x 54) ++ B.drop i)))), (24, .var (.p (dv64 ((B.take i).map (fun x => x8 x 92) ++ B.drop i))))]) (fun i => i ≤ 64) (fun i => 64 - i) 0 []
      (by omega) ⟨nofun, rfl, ⟨rfl, rfl, rfl, rfl, rfl, rfl, trivial⟩, ⟨?_, rfl, ?_, rfl, trivial⟩⟩ ?_
    · show some (Blk.var (.p (.arr 64 ush (copyL (List.replicate 64 (PV.i .u8 0)) 0 64 (List.take 32 (List.drop 0 (bv K))))))) = some (Blk.var (.p (dv64 B)))
      rw [hc]
    · show some (Blk.var (.p (.arr 64 ush (copyL (List.replicate 64 (PV.i .u8 0)) 0 64 (List.take 32 (List.drop 0 (bv K))))))) = some (Blk.var (.p (dv64 B)))
      rw [hc]
    intro i hi
    conv => whnf
    refine iteC (fun h2 => ?_) (fun h2 => ?_)
    · have h2 := of_decide_eq_true h2
      have hlt : i < B.length := by omega
      have hL1 : ((B.take i).map (fun x => x8 x 54)).length = i := by simp; omega
      have hL2 : ((B.take i).map (fun x => x8 x 92)).length = i := by simp; omega
      have hD : B.drop i = B[i] :: B.drop (i + 1) := List.drop_eq_getElem_cons hlt
      have m1 := mid_get8 (x := B[i]) (R := B.drop (i + 1)) hL1
      have m2 := mid_nth8 (x := B[i]) (R := B.drop (i + 1)) hL1
      have m3 := mid_set8 (x := B[i]) (v := x8 B[i] 54) (R := B.drop (i + 1)) hL1
      have n1 := mid_get8 (x := B[i]) (R := B.drop (i + 1)) hL2
      have n2 := mid_nth8 (x := B[i]) (R := B.drop (i + 1)) hL2
      have n3 := mid_set8 (x := B[i]) (v := x8 B[i] 92) (R := B.drop (i + 1)) hL2
      have hT1 : (B.take (i + 1)).map (fun x => x8 x 54) ++ B.drop (i + 1) = (B.take i).map (fun x => x8 x 54) ++ x8 B[i] 54 :: B.drop (i + 1) := by
        rw [List.take_add_one, List.getElem?_eq_getElem hlt, List.map_append, List.append_assoc]
        rfl
      have hT2 : (B.take (i + 1)).map (fun x => x8 x 92) ++ B.drop (i + 1) = (B.take i).map (fun x => x8 x 92) ++ x8 B[i] 92 :: B.drop (i + 1) := by
        rw [List.take_add_one, List.getElem?_eq_getElem hlt, List.map_append, List.append_assoc]
        rfl
      rw [hD]
      conv => whnf
      iterate 5 (conv => arg 2; repeat (first | rw [m1] | rw [m2] | (whnf; arg 2))
                 conv => whnf)
      iterate 5 (conv => arg 2; repeat (first | rw [n1] | rw [n2] | (whnf; arg 2))
                 conv => whnf)
      refine ⟨i + 1, [], by omega, by dsimp only; omega, nofun, rfl, ⟨rfl, rfl, rfl, rfl, incN (by omega), rfl, trivial⟩, ⟨?_, rfl, ?_, rfl, trivial⟩⟩
      · show some (Blk.var (.p (.arr 64 ush ((bv ((B.take i).map (fun x => x8 x 54) ++ B[i] :: B.drop (i + 1))).set (i : Int).toNat (.i .u8 (x8 B[i] 54)))))) = some (Blk.var (.p (dv64 ((B.take (i + 1)).map (fun x => x8 x 54) ++ B.drop (i + 1)))))
        rw [m3, hT1]
      · show some (Blk.var (.p (.arr 64 ush ((bv ((B.take i).map (fun x => x8 x 92) ++ B[i] :: B.drop (i + 1))).set (i : Int).toNat (.i .u8 (x8 B[i] 92)))))) = some (Blk.var (.p (dv64 ((B.take (i + 1)).map (fun x => x8 x 92) ++ B.drop (i + 1)))))
        rw [n3, hT2]
    · have h2 := of_decide_eq_false h2
      obtain rfl : i = 64 := by omega
      show some (AV.tup [.p (dv64 ((B.take 64).map (fun x => x8 x 54) ++ B.drop 64)), .p (dv64 ((B.take 64).map (fun x => x8 x 92) ++ B.drop 64)), .p (.i .i64 0)]) = some (AV.tup [.p (dv64 (B.map fun x => x8 x 54)), .p (dv64 (B.map fun x => x8 x 92)), .p (.i .i64 0)])
      rw [List.drop_of_length_le (by omega), List.take_of_length_le (by omega), List.append_nil, List.append_nil]
  · have h1 := of_decide_eq_false h1
    rw [List.length_map] at h1
    have hK : keyB k = k := by unfold keyB; rw [if_neg (by omega)]
    rw [hK] at hc
    unfold mixK
    generalize blockK k = B at *
    conv => whnf
    refine LoopJ.intro (I := []) (base' := 0) hX hm (by kernel_rfl) (σ := Nat) (fun i => [(2, .ptr 16 []), (3, .ptr 24 []), (28, .p (.i .i64 i))])
      (fun i => [(16, .var (.p (dv64 ((B.take i).map (fun x => x8 x 54) ++ B.drop i)))), (24, .var (.p (dv64 ((B.take i).map (fun x => x8 x 92) ++ B.drop i))))]) (fun i => i ≤ 64) (fun i => 64 - i) 0 []
      (by omega) ⟨nofun, rfl, ⟨rfl, rfl, rfl, rfl, rfl, rfl, trivial⟩, ⟨?_, rfl, ?_, rfl, trivial⟩⟩ ?_
    · show some (Blk.var (.p (.arr 64 ush (copyL (List.replicate 64 (PV.i .u8 0)) 0 64 (bv k))))) = some (Blk.var (.p (dv64 B)))
      rw [hc]
    · show some (Blk.var (.p (.arr 64 ush (copyL (List.replicate 64 (PV.i .u8 0)) 0 64 (bv k))))) = some (Blk.var (.p (dv64 B)))
      rw [hc]
    intro i hi
    conv => whnf
    refine iteC (fun h2 => ?_) (fun h2 => ?_)
    · have h2 := of_decide_eq_true h2
      have hlt : i < B.length := by omega
      have hL1 : ((B.take i).map (fun x => x8 x 54)).length = i := by simp; omega
      have hL2 : ((B.take i).map (fun x => x8 x 92)).length = i := by simp; omega
      have hD : B.drop i = B[i] :: B.drop (i + 1) := List.drop_eq_getElem_cons hlt
      have m1 := mid_get8 (x := B[i]) (R := B.drop (i + 1)) hL1
      have m2 := mid_nth8 (x := B[i]) (R := B.drop (i + 1)) hL1
      have m3 := mid_set8 (x := B[i]) (v := x8 B[i] 54) (R := B.drop (i + 1)) hL1
      have n1 := mid_get8 (x := B[i]) (R := B.drop (i + 1)) hL2
      have n2 := mid_nth8 (x := B[i]) (R := B.drop (i + 1)) hL2
      have n3 := mid_set8 (x := B[i]) (v := x8 B[i] 92) (R := B.drop (i + 1)) hL2
      have hT1 : (B.take (i + 1)).map (fun x => x8 x 54) ++ B.drop (i + 1) = (B.take i).map (fun x => x8 x 54) ++ x8 B[i] 54 :: B.drop (i + 1) := by
        rw [List.take_add_one, List.getElem?_eq_getElem hlt, List.map_append, List.append_assoc]
        rfl
      have hT2 : (B.take (i + 1)).map (fun x => x8 x 92) ++ B.drop (i + 1) = (B.take i).map (fun x => x8 x 92) ++ x8 B[i] 92 :: B.drop (i + 1) := by
        rw [List.take_add_one, List.getElem?_eq_getElem hlt, List.map_append, List.append_assoc]
        rfl
      rw [hD]
      conv => whnf
      iterate 5 (conv => arg 2; repeat (first | rw [m1] | rw [m2] | (whnf; arg 2))
                 conv => whnf)
      iterate 5 (conv => arg 2; repeat (first | rw [n1] | rw [n2] | (whnf; arg 2))
                 conv => whnf)
      refine ⟨i + 1, [], by omega, by dsimp only; omega, nofun, rfl, ⟨rfl, rfl, rfl, rfl, incN (by omega), rfl, trivial⟩, ⟨?_, rfl, ?_, rfl, trivial⟩⟩
      · show some (Blk.var (.p (.arr 64 ush ((bv ((B.take i).map (fun x => x8 x 54) ++ B[i] :: B.drop (i + 1))).set (i : Int).toNat (.i .u8 (x8 B[i] 54)))))) = some (Blk.var (.p (dv64 ((B.take (i + 1)).map (fun x => x8 x 54) ++ B.drop (i + 1)))))
        rw [m3, hT1]
      · show some (Blk.var (.p (.arr 64 ush ((bv ((B.take i).map (fun x => x8 x 92) ++ B[i] :: B.drop (i + 1))).set (i : Int).toNat (.i .u8 (x8 B[i] 92)))))) = some (Blk.var (.p (dv64 ((B.take (i + 1)).map (fun x => x8 x 92) ++ B.drop (i + 1)))))
        rw [n3, hT2]
    · have h2 := of_decide_eq_false h2
      obtain rfl : i = 64 := by omega
      show some (AV.tup [.p (dv64 ((B.take 64).map (fun x => x8 x 54) ++ B.drop 64)), .p (dv64 ((B.take 64).map (fun x => x8 x 92) ++ B.drop 64)), .p (.i .i64 0)]) = some (AV.tup [.p (dv64 (B.map fun x => x8 x 54)), .p (dv64 (B.map fun x => x8 x 92)), .p (.i .i64 0)])
      rw [List.drop_of_length_le (by omega), List.take_of_length_le (by omega), List.append_nil, List.append_nil]
def hashE (b : List Int) : Int := if b.length > 127936 then 4 else 0
def hashD (p b : List Int) : List Int := if b.length > 127936 then zd else ofB (p ++ b)
theorem f95_ok (p b : List Int) (hp : byt p) (hl : p.length = 64) (hb : byt b) (lb : b.length < 4611686018427387904) : Fn Tryd.prog X.G 95 [.p (dv64 p), bvs b] (.tup [.p (dv (hashD p b)), .p (.i .i64 (hashE b))]) := by
  refine Fn.intro (I := []) hX hm 0 Tryd.func95 rfl rfl (by kernel_rfl) rfl ?_
  have s0 : byt start.r := fun x hx => by simp [start] at hx
  have c1 := f100_ok start p s0 hp
  obtain ⟨e1, d1, n1, r1⟩ := validW (h := start) (b := p) (m := 0) rfl rfl (by omega)
  rw [e1, d1] at c1
  have b1 := wr_byt start s0 hp
  have c2 := f100_ok (writeH start p) b b1 hb
  rw [show bvs p = .ro ush (((bv p).drop 0).take 64) from by rw [List.drop_zero, List.take_of_length_le (by rw [List.length_map, hl]; omega)]] at c1
  by_cases hlb : b.length > 127936
  · rw [show hashD p b = zd from by unfold hashD; rw [if_pos hlb], show hashE b = 4 from by unfold hashE; rw [if_pos hlb]]
    have hv : validH (writeH start p) = true := by
      unfold validH
      rw [n1, r1, decide_eq_true (by omega), decide_eq_true (by omega), show (((0 + p.length : Nat) : Int)).tmod 64 = (((0 + p.length) % 64 : Nat) : Int) from rfl]
      simp
    have e2 : wrE (writeH start p) b = 4 := by unfold wrE; rw [if_pos hv, n1, if_pos (by omega)]
    have d2 : wrD (writeH start p) b = h00 := by unfold wrD; rw [e2]; rfl
    rw [e2, d2] at c2
    generalize writeH start p = g1 at *
    conv => whnf
    refine ⟨_, f93_ok, ?_⟩
    conv => whnf
    refine ⟨_, c1, ?_⟩
    conv => whnf
    refine iteF rfl ?_
    conv => whnf
    refine ⟨_, c2, ?_⟩
    conv => whnf
    refine iteT rfl ?_
    rfl
  · rw [show hashD p b = ofB (p ++ b) from by unfold hashD; rw [if_neg hlb], show hashE b = 0 from by unfold hashE; rw [if_neg hlb]]
    obtain ⟨e2, d2, n2, r2⟩ := validW (h := writeH start p) (b := b) n1 r1 (by omega)
    rw [e2, d2] at c2
    have b2 := wr_byt (writeH start p) b1 hb
    have c4 := f101_ok _ b2
    have hall : writeH (writeH start p) b = writeH start (p ++ b) := write_two (h := start) p b (m := 0) rfl (by omega)
    rw [hall] at c2 c4
    obtain ⟨f1, f2⟩ := fin_all (p ++ b) (by simp; omega)
    rw [f1, f2] at c4
    generalize ofB (p ++ b) = d at *
    generalize writeH start (p ++ b) = g2 at *
    generalize writeH start p = g1 at *
    conv => whnf
    refine ⟨_, f93_ok, ?_⟩
    conv => whnf
    refine ⟨_, c1, ?_⟩
    conv => whnf
    refine iteF rfl ?_
    conv => whnf
    refine ⟨_, c2, ?_⟩
    conv => whnf
    refine iteF rfl ?_
    conv => whnf
    refine ⟨_, c4, ?_⟩
    rfl
def inE (k b : List Int) : Int := if k.length > 200 ∨ b.length > 127936 then 4 else 0
def inD (k b : List Int) : List Int := if k.length > 200 ∨ b.length > 127936 then zd else ofB (mixK k 54 ++ b)
theorem f83_ok (k b : List Int) (hk : byt k) (hb : byt b) (lb : b.length < 4611686018427387904) : Fn Tryd.prog X.G 83 [bvs k, bvs b] (.tup [.p (dv (inD k b)), .p (.i .i64 (inE k b))]) := by
  refine Fn.intro (I := []) hX hm 0 Tryd.func83 rfl rfl (by kernel_rfl) rfl ?_
  have c1 := f71_ok k hk
  by_cases h : k.length > 200
  · rw [if_pos h, if_pos h, if_pos h] at c1
    rw [show inD k b = zd from by unfold inD; rw [if_pos (.inl h)], show inE k b = 4 from by unfold inE; rw [if_pos (.inl h)]]
    conv => whnf
    refine ⟨_, c1, ?_⟩
    conv => whnf
    refine iteT rfl ?_
    rfl
  · rw [if_neg h, if_neg h, if_neg h] at c1
    have c2 := f95_ok (mixK k 54) b (mixK_byt _ _) (mixK_len _ _) hb lb
    rw [show inD k b = hashD (mixK k 54) b from by
        unfold inD hashD
        by_cases h2 : b.length > 127936
        · rw [if_pos (.inr h2), if_pos h2]
        · rw [if_neg (by omega), if_neg h2],
      show inE k b = hashE b from by
        unfold inE hashE
        by_cases h2 : b.length > 127936
        · rw [if_pos (.inr h2), if_pos h2]
        · rw [if_neg (by omega), if_neg h2]]
    generalize hashD (mixK k 54) b = d at *
    generalize hashE b = e at *
    generalize mixK k 54 = p at *
    generalize mixK k 92 = q at *
    conv => whnf
    refine ⟨_, c1, ?_⟩
    conv => whnf
    refine iteF rfl ?_
    conv => whnf
    refine ⟨_, c2, ?_⟩
    rfl
def ouE (k : List Int) : Int := if k.length > 200 then 4 else 0
def ouD (k d : List Int) : List Int := if k.length > 200 then zd else ofB (mixK k 92 ++ d)
theorem f84_ok (k d : List Int) (hk : byt k) (hd : byt d) (hl : d.length = 32) : Fn Tryd.prog X.G 84 [bvs k, .p (dv d)] (.tup [.p (dv (ouD k d)), .p (.i .i64 (ouE k))]) := by
  refine Fn.intro (I := []) hX hm 0 Tryd.func84 rfl rfl (by kernel_rfl) rfl ?_
  have c1 := f71_ok k hk
  by_cases h : k.length > 200
  · rw [if_pos h, if_pos h, if_pos h] at c1
    rw [show ouD k d = zd from by unfold ouD; rw [if_pos h], show ouE k = 4 from by unfold ouE; rw [if_pos h]]
    conv => whnf
    refine ⟨_, c1, ?_⟩
    conv => whnf
    refine iteT rfl ?_
    rfl
  · rw [if_neg h, if_neg h, if_neg h] at c1
    have c2 := f95_ok (mixK k 92) d (mixK_byt _ _) (mixK_len _ _) hd (by omega)
    rw [show hashD (mixK k 92) d = ouD k d from by unfold hashD ouD; rw [if_neg (by omega), if_neg h], show hashE d = ouE k from by unfold hashE ouE; rw [if_neg (by omega), if_neg h]] at c2
    rw [show bvs d = .ro ush (((bv d).drop 0).take 32) from by rw [List.drop_zero, List.take_of_length_le (by rw [List.length_map, hl]; omega)]] at c2
    generalize ouD k d = r at *
    generalize ouE k = e at *
    generalize mixK k 54 = p at *
    generalize mixK k 92 = q at *
    conv => whnf
    refine ⟨_, c1, ?_⟩
    conv => whnf
    refine iteF rfl ?_
    conv => whnf
    refine ⟨_, c2, ?_⟩
    rfl
def macD (k b : List Int) : List Int := if k.length > 200 ∨ b.length > 127936 then zd else ofB (mixK k 92 ++ ofB (mixK k 54 ++ b))
theorem f58_ok (k b : List Int) (hk : byt k) (hb : byt b) (lb : b.length < 4611686018427387904) : Fn Tryd.prog X.G 58 [bvs k, bvs b] (.tup [.p (dv (macD k b)), .p (.i .i64 (inE k b))]) := by
  refine Fn.intro (I := []) hX hm 0 Tryd.func58 rfl rfl (by kernel_rfl) rfl ?_
  have c1 := f83_ok k b hk hb lb
  by_cases h : k.length > 200 ∨ b.length > 127936
  · rw [show inD k b = zd from by unfold inD; rw [if_pos h], show inE k b = 4 from by unfold inE; rw [if_pos h]] at c1
    rw [show macD k b = zd from by unfold macD; rw [if_pos h], show inE k b = 4 from by unfold inE; rw [if_pos h]]
    conv => whnf
    refine ⟨_, c1, ?_⟩
    conv => whnf
    refine iteT rfl ?_
    rfl
  · rw [show inD k b = ofB (mixK k 54 ++ b) from by unfold inD; rw [if_neg h], show inE k b = 0 from by unfold inE; rw [if_neg h]] at c1
    have c2 := f84_ok k (ofB (mixK k 54 ++ b)) hk (ofB_byt _) (ofB_length _)
    rw [show ouD k (ofB (mixK k 54 ++ b)) = macD k b from by unfold ouD macD; rw [if_neg h, if_neg (by omega)], show ouE k = 0 from by unfold ouE; rw [if_neg (by omega)]] at c2
    rw [show inE k b = 0 from by unfold inE; rw [if_neg h]]
    generalize macD k b = r at *
    generalize ofB (mixK k 54 ++ b) = d at *
    conv => whnf
    refine ⟨_, c1, ?_⟩
    conv => whnf
    refine iteF rfl ?_
    conv => whnf
    refine ⟨_, c2, ?_⟩
    rfl
end Go.Proofs.YtipmkjfbdflneaaDoor.AM
