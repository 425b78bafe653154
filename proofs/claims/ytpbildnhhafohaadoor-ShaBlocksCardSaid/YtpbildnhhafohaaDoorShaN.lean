/- ShaBlocks: the walk of the law. -/
import Derived.Test.YtpbildnhhafohaaDoorShaM
namespace Go.Proofs.YtpbildnhhafohaaDoor.AM
open Go Go.Proofs
set_option maxRecDepth 100000

theorem dgL_get (v : V8) {i n : Nat} (h : i < n) : (dgL v n)[i]'(by rw [dgL_length]; exact h) = dg v i := by
  induction n with
  | zero => omega
  | succ n ih =>
    have hL := dgL_length v n
    simp only [dgL]
    by_cases hi : i = n
    · subst hi
      rw [List.getElem_append_right (by omega)]
      simp
    · rw [List.getElem_append_left (by omega)]
      exact ih (by omega)
theorem dgL_at (v : V8) {i n : Nat} (h : i < n) : (dgL v n)[i]? = some (dg v i) := by
  rw [List.getElem?_eq_getElem (by rw [dgL_length]; exact h), dgL_get v h]
theorem pow256 (k : Nat) : (2 : Int) ^ (min (8 * k) 64) = if k ≤ 8 then ((256 ^ k : Nat) : Int) else ((256 ^ 8 : Nat) : Int) := by
  by_cases h : k ≤ 8
  · rw [if_pos h, show min (8 * k) 64 = 8 * k by omega, Int.pow_mul]
    norm_cast
  · rw [if_neg h, show min (8 * k) 64 = 64 by omega]
    rfl
theorem byteU_nat (n k : Nat) (hk : k ≤ 8) : byteU (n : Int) ((8 * k : Nat) : Int) = ((n / 256 ^ k % 256 : Nat) : Int) := by
  unfold byteU
  rw [Int.toNat_natCast, pow256, if_pos hk]
  have : (n : Int).fdiv ((256 ^ k : Nat) : Int) = ((n / 256 ^ k : Nat) : Int) := by
    rw [Int.fdiv_eq_ediv_of_nonneg _ (Int.natCast_nonneg _)]
    rfl
  rw [this]
  simp [IntKind.wrap, IntKind.signed, IntKind.bits]
theorem bits_step (n : Nat) {i : Nat} (h : i < 8) : 256 * (n / 256 ^ (8 - i)) + n / 256 ^ (7 - i) % 256 = n / 256 ^ (8 - (i + 1)) := by
  have e : 8 - i = (7 - i) + 1 := by omega
  rw [e, Nat.pow_succ, ← Nat.div_div_eq_div_mul, show 8 - (i + 1) = 7 - i by omega]
  omega
set_option maxHeartbeats 8000000 in
theorem f5_ok (b : List Int) (hb : byt b) : Fn Tryd.prog X.G 5 [bvs b] (.p (.b true)) := by
  refine Fn.intro (I := []) hX hm 0 Tryd.func5 rfl rfl (by kernel_rfl) rfl ?_
  conv => whnf
  refine iteC (fun h => ?_) (fun h => ?_)
  · conv => whnf
    refine ⟨_, f28_ok, ?_⟩
    conv => whnf
    refine iteT rfl ?_
    rfl
  have lb := of_decide_eq_false h
  rw [List.length_map] at lb
  clear h
  have hz := zeros_lt b.length
  have hpl := padL_length b.length
  have hzz : zerosN b.length = (119 - b.length % 64) % 64 := rfl
  have cp := f16_ok ((bv b).length : Int)
  have ep : padP ((bv b).length : Int) = padL b.length := by unfold padP; rw [if_neg (by simp; omega), List.length_map, Int.toNat_natCast]
  have ee : padE ((bv b).length : Int) = 0 := by unfold padE; rw [if_neg (by simp; omega)]
  rw [ep, ee] at cp
  have cs := f14_ok b hb
  rw [show sumD b = ofB b from by unfold sumD; rw [if_neg (by omega)], show sumE b = 0 from by unfold sumE; rw [if_neg (by omega)]] at cs
  have hpb := padL_byt b.length
  have hgp : ∀ i, i < 8 → (padL b.length).getD (zerosN b.length + 1 + i) 0 = byteU ((8 * b.length : Nat) : Int) ((8 * (8 - 1 - i) : Nat) : Int) := fun i hi => by
    have h1 : i < (bytesU ((8 * b.length : Nat) : Int) 8).length := by rw [bytesU_length]; exact hi
    unfold padL
    rw [List.getD_eq_getElem?_getD, show zerosN b.length + 1 + i = (zerosN b.length + i) + 1 by omega, List.getElem?_cons_succ, List.getElem?_append_right (by simp), List.length_replicate, Nat.add_sub_cancel_left, List.getElem?_eq_getElem h1, bytesU_get _ hi]
    rfl
  have hh0 : ∃ q, padL b.length = 128 :: q := ⟨_, rfl⟩
  have eofB : ofB b = dgL (afterV first (b ++ padL b.length)) 32 := by rw [dgL_32]; rfl
  rw [eofB] at cs
  clear eofB
  obtain ⟨q, hq⟩ := hh0
  rw [hq] at cp cs hpl hpb hgp
  generalize hal : b ++ 128 :: q = al at *
  have hlal : al.length = b.length + (q.length + 1) := by rw [← hal]; simp
  have hlq : q.length + 1 = zerosN b.length + 9 := by simpa using hpl
  have hal64 : al.length % 64 = 0 := by omega
  have hlL : (List.replicate 0 (PV.i .u8 0) ++ bv b ++ bv (128 :: q)) = bv al := by rw [← hal]; simp
  have hab : byt al := by rw [← hal]; exact byt_append hb hpb
  conv => whnf
  refine ⟨_, cp, ?_⟩
  conv => whnf
  iterate 2 (conv => arg 2; repeat (first | rw [capN _ (by simp; omega)] | (whnf; arg 2))
             conv => whnf)
  refine iteF rfl ?_
  conv => whnf
  refine iteF (decide_eq_false (by simp; omega)) ?_
  conv => whnf
  refine iteF (decide_eq_false (by simp; omega)) ?_
  conv => whnf
  refine iteF (by
    show ((((List.replicate 0 (PV.i .u8 0) ++ bv b ++ bv (128 :: q)).length : Nat) : Int).tmod 64 != 0) = false
    rw [hlL, List.length_map, show ((al.length : Nat) : Int).tmod 64 = ((al.length % 64 : Nat) : Int) from rfl, hal64]
    rfl) ?_
  conv => whnf
  refine iteF rfl ?_
  conv => whnf
  refine ⟨_, f26_ok, ?_⟩
  conv => whnf
  refine LoopJ.intro (I := []) (base' := 0) hX hm (by kernel_rfl) (σ := Nat) (fun k => [(0, bvs b), (3, .own 176), (5, .own 232), (6, .ptr 48 []), (7, .p (.i .i64 ((64 * k : Nat) : Int)))])
    (fun k => [(176, .els true ush (bv (128 :: q))), (232, .els true ush (bv al)), (48, .var (.p (hw (blk first al k))))]) (fun k => 64 * k ≤ al.length) (fun k => al.length - 64 * k) 0 []
    (by omega) ⟨nofun, rfl, ⟨rfl, rfl, rfl, rfl, rfl, rfl, rfl, rfl, rfl, rfl, trivial⟩, ⟨rfl, rfl, ?_, rfl, rfl, rfl, trivial⟩⟩ ?_
  · show some (Blk.els true ush (List.replicate 0 (PV.i .u8 0) ++ bv b ++ bv (128 :: q))) = some (Blk.els true ush (bv al))
    rw [hlL]
  intro k hk
  have e1 : IntKind.i64.wrap (((64 * k : Nat) : Int) + 64) = ((64 * (k + 1) : Nat) : Int) := by rw [wr_i64 (by omega) (by omega)]; omega
  conv => whnf
  refine iteC (fun h2 => ?_) (fun h2 => ?_)
  · have h2 := of_decide_eq_true h2
    rw [List.length_map] at h2
    have hk2 : 64 * (k + 1) ≤ al.length := by omega
    have h3 : IntKind.i64.wrap (((64 * k : Nat) : Int) + 64) ≤ ((bv al).length : Int) := by rw [e1]; simp; omega
    have h4 : ((64 * k : Nat) : Int) ≤ IntKind.i64.wrap (((64 * k : Nat) : Int) + 64) := by rw [e1]; omega
    have d3 := decide_eq_true h3
    have d4 := decide_eq_true h4
    have hl64 : ((al.drop (64 * k)).take 64).length = 64 := by simp; omega
    have ct := f18_ok (blk first al k) ((al.drop (64 * k)).take 64) (byt_take (byt_drop hab _) _)
    rw [show blkE ((al.drop (64 * k)).take 64) = 0 from by unfold blkE; rw [if_pos hl64], show blkV (blk first al k) ((al.drop (64 * k)).take 64) = blk first al (k + 1) from by unfold blkV; rw [if_pos hl64]; rfl] at ct
    have e5 : ((al.drop (64 * k)).take 64) = (al.drop (64 * k)).take ((IntKind.i64.wrap (((64 * k : Nat) : Int) + 64)).toNat - 64 * k) := by rw [e1, Int.toNat_natCast]; congr 1; omega
    rw [show bvs ((al.drop (64 * k)).take 64) = .ro ush (((bv al).drop (64 * k)).take ((IntKind.i64.wrap (((64 * k : Nat) : Int) + 64)).toNat - 64 * k)) from by rw [← bvs_sub, ← e5]] at ct
    conv => whnf
    iterate 2 (conv => arg 2; repeat (first | rw [d3] | rw [d4] | rw [leT h3] | rw [leT h4] | (whnf; arg 2))
               conv => whnf)
    refine ⟨_, ct, ?_⟩
    conv => whnf
    refine iteF rfl ?_
    conv => whnf
    refine ⟨k + 1, [], by omega, by dsimp only; omega, nofun, rfl, ⟨rfl, rfl, rfl, rfl, rfl, rfl, rfl, rfl, ?_, rfl, trivial⟩, ⟨rfl, rfl, rfl, rfl, rfl, rfl, trivial⟩⟩
    show AV.p (.i .i64 (IntKind.i64.wrap (((64 * k : Nat) : Int) + 64))) = _
    rw [e1]
    rfl
  · have h2 := of_decide_eq_false h2
    rw [List.length_map] at h2
    obtain rfl : al.length / 64 = k := by omega
    have cs2 := cs
    clear cs
    unfold afterV at cs2
    generalize blk first al (al.length / 64) = v at *
    obtain ⟨dd, hdd⟩ : ∃ dd, dd = dgL v 32 := ⟨_, rfl⟩
    rw [← hdd] at cs2
    have hd32 : dd.length = 32 := by rw [hdd]; exact dgL_length v 32
    have hdg : ∀ i, i < 32 → dd[i]? = some (dg v i) := fun i hi => by
      rw [hdd]
      exact dgL_at v hi
    clear hdd
    conv => whnf
    refine ⟨_, cs2, ?_⟩
    conv => whnf
    refine iteF rfl ?_
    conv => whnf
    refine LoopJ.intro (I := []) (base' := 0) hX hm (by kernel_rfl) (σ := Nat) (fun i => [(0, bvs b), (3, .own 176), (6, .ptr 48 []), (10, .ptr 80 []), (12, .p (.i .i64 ((8 * b.length / 256 ^ (8 - i) : Nat) : Int))), (13, .p (.i .i64 ((zerosN b.length + 1 + i : Nat) : Int)))])
      (fun i => [(176, .els true ush (bv (128 :: q))), (48, .var (.p (hw v))), (80, .var (.p (dv dd)))]) (fun i => i ≤ 8) (fun i => 8 - i) 0 []
      (by omega) ⟨nofun, rfl, ⟨rfl, rfl, rfl, rfl, rfl, rfl, rfl, rfl, ?_, rfl, ?_, rfl, trivial⟩, ⟨rfl, rfl, rfl, rfl, rfl, rfl, trivial⟩⟩ ?_
    · show AV.p (.i .i64 0) = AV.p (.i .i64 ((8 * b.length / 256 ^ 8 : Nat) : Int))
      rw [show 8 * b.length / 256 ^ 8 = 0 from Nat.div_eq_of_lt (by omega)]
      rfl
    · show AV.p (.i .i64 (IntKind.i64.wrap (((bv (128 :: q)).length : Int) - 8))) = AV.p (.i .i64 ((zerosN b.length + 1 : Nat) : Int))
      rw [List.length_map, List.length_cons, wr_i64 (by omega) (by omega), show (((q.length + 1 : Nat) : Int) - 8) = ((zerosN b.length + 1 : Nat) : Int) by omega]
    intro i hi
    conv => whnf
    refine iteC (fun h => ?_) (fun h => ?_)
    · have h := of_decide_eq_true h
      rw [List.length_map, List.length_cons] at h
      have hlt : zerosN b.length + 1 + i < (128 :: q).length := by rw [List.length_cons]; omega
      have hi8 : i < 8 := by omega
      have ga := getM (f := PV.i .u8) hlt
      have gn := nthM (f := PV.i .u8) hlt
      have hv : (128 :: q)[zerosN b.length + 1 + i] = ((8 * b.length / 256 ^ (8 - 1 - i) % 256 : Nat) : Int) := by
        have := hgp i hi8
        rw [List.getD_eq_getElem?_getD, List.getElem?_eq_getElem hlt, byteU_nat _ _ (by omega)] at this
        exact this
      rw [hv] at ga gn
      generalize hqq : (128 :: q) = qq at *
      conv => whnf
      iterate 2 (conv => arg 2; repeat (first | rw [ga] | rw [gn] | (whnf; arg 2))
                 conv => whnf)
      have hsm : 8 * b.length < 8001 := by omega
      have hst := bits_step (8 * b.length) hi8
      have hb1 : 8 * b.length / 256 ^ (8 - i) ≤ 8 * b.length := Nat.div_le_self _ _
      have hb2 : 8 * b.length / 256 ^ (7 - i) % 256 < 256 := Nat.mod_lt _ (by decide)
      refine ⟨i + 1, [], by omega, by dsimp only; omega, nofun, rfl, ⟨rfl, rfl, rfl, rfl, rfl, rfl, rfl, rfl, ?_, rfl, incN (by omega), rfl, trivial⟩, ⟨rfl, rfl, rfl, rfl, rfl, rfl, trivial⟩⟩
      show AV.p (.i .i64 (IntKind.i64.wrap (IntKind.i64.wrap (256 * ((8 * b.length / 256 ^ (8 - i) : Nat) : Int)) + IntKind.i64.wrap ((8 * b.length / 256 ^ (8 - 1 - i) % 256 : Nat) : Int)))) = AV.p (.i .i64 ((8 * b.length / 256 ^ (8 - (i + 1)) : Nat) : Int))
      rw [← hst, show 8 - 1 - i = 7 - i by omega]
      generalize 8 * b.length / 256 ^ (8 - i) = x at *
      generalize 8 * b.length / 256 ^ (7 - i) % 256 = y at *
      rw [wr_i64 (n := 256 * (x : Int)) (by omega) (by omega), wr_i64 (n := (y : Int)) (by omega) (by omega), wr_i64 (by omega) (by omega)]
      rw [show (256 * (x : Int) + (y : Int)) = ((256 * x + y : Nat) : Int) by omega]
    · have h := of_decide_eq_false h
      rw [List.length_map, List.length_cons] at h
      obtain rfl : i = 8 := by omega
      conv => whnf
      refine LoopJ.intro (I := []) (base' := 0) hX hm (by kernel_rfl) (σ := Nat) (fun i => [(0, bvs b), (6, .ptr 48 []), (10, .ptr 80 []), (12, .p (.i .i64 ((8 * b.length : Nat) : Int))), (14, .p (.i .i64 i))])
        (fun i => [(48, .var (.p (hw v))), (80, .var (.p (dv dd)))]) (fun i => i ≤ 32) (fun i => 32 - i) 0 []
        (by omega) ⟨nofun, rfl, ⟨rfl, rfl, rfl, rfl, rfl, rfl, ?_, rfl, rfl, rfl, trivial⟩, ⟨rfl, rfl, rfl, rfl, trivial⟩⟩ ?_
      · show AV.p (.i .i64 ((8 * b.length / 256 ^ 0 : Nat) : Int)) = AV.p (.i .i64 ((8 * b.length : Nat) : Int))
        rw [Nat.pow_zero, Nat.div_one]
      intro i hi
      conv => whnf
      refine iteC (fun h => ?_) (fun h => ?_)
      · have h := of_decide_eq_true h
        have hlt : i < dd.length := by omega
        have ga := getM (f := PV.i .u8) hlt
        have gn := nthM (f := PV.i .u8) hlt
        have hdi := hdg i (by omega)
        rw [List.getElem?_eq_getElem hlt] at hdi
        rw [Option.some.inj hdi] at ga gn
        have t1 : (i : Int).tdiv 4 = ((i / 4 : Nat) : Int) := rfl
        have t2 : (i : Int).tmod 4 = ((i % 4 : Nat) : Int) := rfl
        have q1 : IntKind.i64.wrap ((i : Int).tdiv 4) = ((i / 4 : Nat) : Int) := by rw [t1, wr_i64 (by omega) (by omega)]
        have e2 : IntKind.i64.wrap (24 - IntKind.i64.wrap (8 * (i : Int).tmod 4)) = 24 - 8 * ((i % 4 : Nat) : Int) := by
          rw [t2, wr_i64 (n := 8 * ((i % 4 : Nat) : Int)) (by omega) (by omega), wr_i64 (by omega) (by omega)]
        have h2 : ¬ IntKind.i64.wrap (24 - IntKind.i64.wrap (8 * (i : Int).tmod 4)) < 0 := by rw [e2]; omega
        have d2 := decide_eq_false h2
        have g1 : getI (hwl v) (IntKind.i64.wrap ((i : Int).tdiv 4)) = some (PV.i .u32 (v.l.getD (i / 4) 0)) := by rw [q1]; exact hw_get v (by omega)
        have n1 : (hwl v)[(IntKind.i64.wrap ((i : Int).tdiv 4)).toNat]? = some (PV.i .u32 (v.l.getD (i / 4) 0)) := by rw [q1]; exact hw_nth v (by omega)
        conv => whnf
        iterate 5 (conv => arg 2; repeat (first | rw [ga] | rw [gn] | rw [g1] | rw [n1] | rw [d2] | rw [ltF h2] | (whnf; arg 2))
                   conv => whnf)
        refine iteF (by
          show (dg v i != byW (v.l.getD (i / 4) 0) (IntKind.i64.wrap (24 - IntKind.i64.wrap (8 * (i : Int).tmod 4)))) = false
          rw [e2]
          show (dg v i != dg v i) = false
          simp) ?_
        conv => whnf
        refine ⟨i + 1, [], by omega, by dsimp only; omega, nofun, rfl, ⟨rfl, rfl, rfl, rfl, rfl, rfl, rfl, rfl, incN (by omega), rfl, trivial⟩, ⟨rfl, rfl, rfl, rfl, trivial⟩⟩
      · conv => whnf
        refine iteT (by
          show (((8 * b.length : Nat) : Int) == IntKind.i64.wrap (8 * ((bv b).length : Int))) = true
          rw [List.length_map, wr_i64 (by omega) (by omega)]
          simp) ?_
        conv => whnf
        refine ⟨_, f28_ok, ?_⟩
        conv => whnf
        refine iteT rfl ?_
        rfl
end Go.Proofs.YtpbildnhhafohaaDoor.AM
