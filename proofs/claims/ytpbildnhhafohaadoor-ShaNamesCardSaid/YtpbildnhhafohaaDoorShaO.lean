/- ShaOn: the walk of the law. -/
import Derived.Test.YtpbildnhhafohaaDoorShaM
namespace Go.Proofs.YtpbildnhhafohaaDoor.AM
open Go Go.Proofs
set_option maxRecDepth 100000

theorem Fn.nilS1 {P : Program} {G : Globs} {f : Nat} {s t : Sh} {x y : AV} {bs : List AV} {r : AV} (h : Fn P G f (.st [x, .ro s [], y] :: bs) r) : Fn P G f (.st [x, .ro t [], y] :: bs) r :=
  h.args fun w vs hv => by
    match vs, hv with
    | v :: _, hv =>
      refine ⟨?_, hv.2⟩
      have h2 := hv.1
      simp only [Rel] at h2 ⊢
      obtain ⟨us, hu, hst, e⟩ := h2
      refine ⟨us, ?_, fun z hz => ?_, e⟩
      · match us, hu with
        | [_, _, _], hu => exact ⟨hu.1, rel_ro_nil hu.2.1, hu.2.2.1, trivial⟩
      · have : z = x ∨ z = .ro s [] ∨ z = y := by simpa using hz
        rcases this with rfl | rfl | rfl
        · exact hst _ (by simp)
        · rfl
        · exact hst _ (by simp)
theorem Fn.nilS2 {P : Program} {G : Globs} {f : Nat} {s t : Sh} {a x y : AV} {bs : List AV} {r : AV} (h : Fn P G f (a :: .st [x, .ro s [], y] :: bs) r) : Fn P G f (a :: .st [x, .ro t [], y] :: bs) r :=
  h.args fun w vs hv => by
    match vs, hv with
    | _ :: v :: _, hv =>
      refine ⟨hv.1, ?_, hv.2.2⟩
      have h2 := hv.2.1
      simp only [Rel] at h2 ⊢
      obtain ⟨us, hu, hst, e⟩ := h2
      refine ⟨us, ?_, fun z hz => ?_, e⟩
      · match us, hu with
        | [_, _, _], hu => exact ⟨hu.1, rel_ro_nil hu.2.1, hu.2.2.1, trivial⟩
      · have : z = x ∨ z = .ro s [] ∨ z = y := by simpa using hz
        rcases this with rfl | rfl | rfl
        · exact hst _ (by simp)
        · rfl
        · exact hst _ (by simp)
theorem write_nil (v : V8) (n : Nat) (hn : n ≤ 128000) : writeH ⟨v, [], n⟩ [] = ⟨v, [], n⟩ := by
  have e : IntKind.i64.wrap ((n : Int) + ((0 : Nat) : Int)) = (n : Int) := by rw [wr_i64 (by omega) (by omega)]; omega
  simp only [writeH, afterV, List.append_nil, List.length_nil, Nat.zero_div, Nat.mul_zero, List.drop_nil, e]
  rfl
theorem write_whole (v : V8) (b : List Int) (M : Nat) (h : M + b.length ≤ 128000) : writeH ⟨v, [], M⟩ (b.take (64 * (b.length / 64))) = ⟨blk v b (b.length / 64), [], ((M + 64 * (b.length / 64) : Nat) : Int)⟩ := by
  have hl : (b.take (64 * (b.length / 64))).length = 64 * (b.length / 64) := by rw [List.length_take]; omega
  have e : IntKind.i64.wrap ((M : Int) + ((64 * (b.length / 64) : Nat) : Int)) = ((M + 64 * (b.length / 64) : Nat) : Int) := by rw [wr_i64 (by omega) (by omega)]; omega
  have hb : blk v (b.take (64 * (b.length / 64))) (b.length / 64) = blk v b (b.length / 64) := by
    have := blk_le v (x := b.take (64 * (b.length / 64))) (b.drop (64 * (b.length / 64))) (k := b.length / 64) (by omega)
    rw [List.take_append_drop] at this
    exact this.symm
  simp only [writeH, afterV, List.nil_append, hl, e]
  rw [show 64 * (b.length / 64) / 64 = b.length / 64 by omega, hb, List.drop_eq_nil_of_le (by rw [hl]; omega)]
theorem write_all (v : V8) (b : List Int) (M : Nat) (h : M + b.length ≤ 128000) : writeH ⟨v, [], M⟩ b = ⟨blk v b (b.length / 64), b.drop (64 * (b.length / 64)), ((M + b.length : Nat) : Int)⟩ := by
  have e : IntKind.i64.wrap ((M : Int) + (b.length : Int)) = ((M + b.length : Nat) : Int) := by rw [wr_i64 (by omega) (by omega)]; omega
  simp only [writeH, afterV, List.nil_append, e]
theorem write_rest (w : V8) (b : List Int) (M : Nat) (h : M + b.length ≤ 128000) : writeH ⟨w, [], ((M + 64 * (b.length / 64) : Nat) : Int)⟩ (b.drop (64 * (b.length / 64))) = ⟨w, b.drop (64 * (b.length / 64)), ((M + b.length : Nat) : Int)⟩ := by
  have hl : (b.drop (64 * (b.length / 64))).length = b.length - 64 * (b.length / 64) := by rw [List.length_drop]
  have e : IntKind.i64.wrap (((M + 64 * (b.length / 64) : Nat) : Int) + ((b.length - 64 * (b.length / 64) : Nat) : Int)) = ((M + b.length : Nat) : Int) := by rw [wr_i64 (by omega) (by omega)]; omega
  simp only [writeH, afterV, List.nil_append, hl, e]
  rw [show (b.length - 64 * (b.length / 64)) / 64 = 0 by omega, Nat.mul_zero, List.drop_zero]
  rfl
set_option maxHeartbeats 8000000 in
theorem f8_ok (v : V8) (n : Int) (b : List Int) (hb : byt b) : Fn Tryd.prog X.G 8 [.p (hw v), .p (.i .i64 n), bvs b] (.p (.b true)) := by
  refine Fn.intro (I := []) hX hm 0 Tryd.func8 rfl rfl (by kernel_rfl) rfl ?_
  conv => whnf
  refine iteC (fun h => ?_) (fun h => ?_)
  · conv => whnf
    refine ⟨_, f28_ok, ?_⟩
    conv => whnf
    refine iteT rfl ?_
    rfl
  have h0 := of_decide_eq_false h
  clear h
  conv => whnf
  refine iteC (fun h => ?_) (fun h => ?_)
  · conv => whnf
    refine ⟨_, f28_ok, ?_⟩
    conv => whnf
    refine iteT rfl ?_
    rfl
  have h1 := of_decide_eq_false h
  clear h
  conv => whnf
  refine iteC (fun h => ?_) (fun h => ?_)
  · conv => whnf
    refine ⟨_, f28_ok, ?_⟩
    conv => whnf
    refine iteT rfl ?_
    rfl
  have lb := of_decide_eq_false h
  rw [List.length_map] at lb
  clear h
  obtain ⟨m, rfl⟩ := Int.eq_ofNat_of_zero_le (Int.not_lt.1 h0)
  have hm1 : m ≤ 1000 := by omega
  have e64 : IntKind.i64.wrap (64 * (m : Int)) = ((64 * m : Nat) : Int) := by rw [wr_i64 (by omega) (by omega)]; omega
  have nb : byt ([] : List Int) := fun x hx => by simp at hx
  generalize hM : 64 * m = M at *
  have hM2 : M % 64 = 0 := by omega
  have hb0 : (⟨v, [], (M : Int)⟩ : Hs).r.length = M % 64 := by rw [hM2]; rfl
  have c1 := f21_ok ⟨v, [], M⟩ [] nb nb
  obtain ⟨q1, q2, q3, q4⟩ := validW (h := ⟨v, [], M⟩) (b := []) rfl hb0 (by simp; omega)
  rw [q1, q2, write_nil v M (by omega)] at c1
  rw [← e64] at c1
  have c2 := f25_ok ⟨v, [], IntKind.i64.wrap (64 * (m : Int))⟩ ⟨v, [], IntKind.i64.wrap (64 * (m : Int))⟩ (by simp)
  rw [decide_eq_true rfl] at c2
  conv => whnf
  refine ⟨_, c1.nilS1.nil2, ?_⟩
  conv => whnf
  refine iteF rfl ?_
  conv => whnf
  refine ⟨_, c2.nilS2, ?_⟩
  conv => whnf
  refine iteT rfl ?_
  conv => whnf
  have hK : IntKind.i64.wrap (IntKind.i64.wrap (((bv b).length : Int).tdiv 64) * 64) = ((64 * (b.length / 64) : Nat) : Int) := by
    rw [List.length_map, show ((b.length : Nat) : Int).tdiv 64 = ((b.length / 64 : Nat) : Int) from rfl, wr_i64 (n := ((b.length / 64 : Nat) : Int)) (by omega) (by omega), wr_i64 (by omega) (by omega)]
    omega
  refine LoopJ.intro (I := []) (base' := 0) hX hm (by kernel_rfl) (σ := Nat) (fun k => [(1, .p (.i .i64 m)), (2, bvs b), (3, .ptr 24 []), (7, .ptr 56 []), (10, .p (.i .i64 ((64 * (b.length / 64) : Nat) : Int))), (11, .p (.i .i64 ((64 * k : Nat) : Int)))])
    (fun k => [(24, .var (.p (hw (blk v b k)))), (56, .var (.st [.p (hw v), .nil, .p (.i .i64 (IntKind.i64.wrap (64 * (m : Int))))]))]) (fun k => k ≤ b.length / 64) (fun k => b.length / 64 - k) 0 []
    (by omega) ⟨nofun, rfl, ⟨rfl, rfl, rfl, rfl, rfl, rfl, rfl, rfl, ?_, rfl, rfl, rfl, trivial⟩, ⟨rfl, rfl, rfl, rfl, trivial⟩⟩ ?_
  · show AV.p (.i .i64 (IntKind.i64.wrap (IntKind.i64.wrap (((bv b).length : Int).tdiv 64) * 64))) = _
    rw [hK]
    rfl
  intro k hk
  have e1 : IntKind.i64.wrap (((64 * k : Nat) : Int) + 64) = ((64 * (k + 1) : Nat) : Int) := by rw [wr_i64 (by omega) (by omega)]; omega
  conv => whnf
  refine iteC (fun h2 => ?_) (fun h2 => ?_)
  · have h2 := of_decide_eq_true h2
    have hk2 : 64 * (k + 1) ≤ b.length := by omega
    have h3 : IntKind.i64.wrap (((64 * k : Nat) : Int) + 64) ≤ ((bv b).length : Int) := by rw [e1, List.length_map]; omega
    have h4 : ((64 * k : Nat) : Int) ≤ IntKind.i64.wrap (((64 * k : Nat) : Int) + 64) := by rw [e1]; omega
    have d3 := decide_eq_true h3
    have d4 := decide_eq_true h4
    have hl64 : ((b.drop (64 * k)).take 64).length = 64 := by simp; omega
    have ct := f18_ok (blk v b k) ((b.drop (64 * k)).take 64) (byt_take (byt_drop hb _) _)
    rw [show blkE ((b.drop (64 * k)).take 64) = 0 from by unfold blkE; rw [if_pos hl64], show blkV (blk v b k) ((b.drop (64 * k)).take 64) = blk v b (k + 1) from by unfold blkV; rw [if_pos hl64]; rfl] at ct
    have e5 : ((b.drop (64 * k)).take 64) = (b.drop (64 * k)).take ((IntKind.i64.wrap (((64 * k : Nat) : Int) + 64)).toNat - 64 * k) := by rw [e1, Int.toNat_natCast]; congr 1; omega
    rw [show bvs ((b.drop (64 * k)).take 64) = .ro ush (((bv b).drop (64 * k)).take ((IntKind.i64.wrap (((64 * k : Nat) : Int) + 64)).toNat - 64 * k)) from by rw [← bvs_sub, ← e5]] at ct
    conv => whnf
    iterate 2 (conv => arg 2; repeat (first | rw [d3] | rw [d4] | rw [leT h3] | rw [leT h4] | (whnf; arg 2))
               conv => whnf)
    refine ⟨_, ct, ?_⟩
    conv => whnf
    refine iteF rfl ?_
    conv => whnf
    refine ⟨k + 1, [], by omega, by dsimp only; omega, nofun, rfl, ⟨rfl, rfl, rfl, rfl, rfl, rfl, rfl, rfl, rfl, rfl, ?_, rfl, trivial⟩, ⟨rfl, rfl, rfl, rfl, trivial⟩⟩
    show AV.p (.i .i64 (IntKind.i64.wrap (((64 * k : Nat) : Int) + 64))) = _
    rw [e1]
    rfl
  · have h2 := of_decide_eq_false h2
    obtain rfl : b.length / 64 = k := by omega
    have g1 := write_whole v b M (by omega)
    have g2 := write_all v b M (by omega)
    have g3 := write_rest (blk v b (b.length / 64)) b M (by omega)
    have hbt : byt (b.take (64 * (b.length / 64))) := byt_take hb _
    have hbd : byt (b.drop (64 * (b.length / 64))) := byt_drop hb _
    have c3 := f21_ok ⟨v, [], M⟩ (b.take (64 * (b.length / 64))) nb hbt
    obtain ⟨r1, r2, r3, r4⟩ := validW (h := ⟨v, [], M⟩) (b := b.take (64 * (b.length / 64))) rfl hb0 (by rw [List.length_take]; omega)
    rw [r1, r2, g1] at c3
    have c4 := f21_ok ⟨v, [], M⟩ b nb hb
    obtain ⟨s1, s2, s3, s4⟩ := validW (h := ⟨v, [], M⟩) (b := b) rfl hb0 (by omega)
    rw [s1, s2, g2] at c4
    have c5 := f21_ok ⟨blk v b (b.length / 64), [], ((M + 64 * (b.length / 64) : Nat) : Int)⟩ (b.drop (64 * (b.length / 64))) nb hbd
    obtain ⟨t1, t2, t3, t4⟩ := validW (h := ⟨blk v b (b.length / 64), [], ((M + 64 * (b.length / 64) : Nat) : Int)⟩) (b := b.drop (64 * (b.length / 64))) (m := M + 64 * (b.length / 64)) rfl (by show 0 = _; omega) (by rw [List.length_drop]; omega)
    rw [t1, t2, g3] at c5
    have c6 := f25_ok ⟨blk v b (b.length / 64), [], ((M + 64 * (b.length / 64) : Nat) : Int)⟩ ⟨blk v b (b.length / 64), [], ((M + 64 * (b.length / 64) : Nat) : Int)⟩ (by simp)
    have c7 := f20_ok (b.drop (64 * (b.length / 64))) (b.drop (64 * (b.length / 64))) (by rw [List.length_drop]; omega)
    rw [decide_eq_true rfl] at c6 c7
    have hv : validH ⟨blk v b (b.length / 64), b.drop (64 * (b.length / 64)), ((M + b.length : Nat) : Int)⟩ = true := by
      unfold validH
      dsimp only
      rw [decide_eq_true (by omega), decide_eq_true (by omega), List.length_drop, show ((M + b.length : Nat) : Int).tmod 64 = (((M + b.length) % 64 : Nat) : Int) from rfl, show b.length - 64 * (b.length / 64) = (M + b.length) % 64 by omega]
      simp
    have c8 := f23_ok ⟨blk v b (b.length / 64), b.drop (64 * (b.length / 64)), ((M + b.length : Nat) : Int)⟩ hbd
    rw [show fiE ⟨blk v b (b.length / 64), b.drop (64 * (b.length / 64)), ((M + b.length : Nat) : Int)⟩ = 0 from by unfold fiE; rw [if_pos hv]] at c8
    generalize fiD ⟨blk v b (b.length / 64), b.drop (64 * (b.length / 64)), ((M + b.length : Nat) : Int)⟩ = d at *
    rw [show bvs (b.take (64 * (b.length / 64))) = .ro ush (((bv b).drop 0).take (64 * (b.length / 64))) from by rw [← bvs_sub, List.drop_zero]] at c3
    have eD : bvs (b.drop (64 * (b.length / 64))) = .ro ush (((bv b).drop (64 * (b.length / 64))).take ((bv b).length - 64 * (b.length / 64))) := by rw [← bvs_sub, List.length_map, List.take_of_length_le (by rw [List.length_drop]; omega)]
    have c7' : Fn Tryd.prog X.G 20 [bvs (b.drop (64 * (b.length / 64))), .ro ush (((bv b).drop (64 * (b.length / 64))).take ((bv b).length - 64 * (b.length / 64)))] (.p (.b true)) := by
      rw [← eD]
      exact c7
    rw [eD] at c5
    have eN1 : IntKind.i64.wrap (IntKind.i64.wrap (64 * (m : Int)) + ((64 * (b.length / 64) : Nat) : Int)) = ((M + 64 * (b.length / 64) : Nat) : Int) := by rw [e64, wr_i64 (by omega) (by omega)]; omega
    have eN2 : IntKind.i64.wrap (IntKind.i64.wrap (64 * (m : Int)) + ((bv b).length : Int)) = ((M + b.length : Nat) : Int) := by rw [e64, List.length_map, wr_i64 (by omega) (by omega)]; omega
    have hwT := same_hwT (blk v b (b.length / 64))
    rw [← e64] at c3 c4
    rw [← eN1] at c5
    have z1 : (0 : Int) ≤ ((64 * (b.length / 64) : Nat) : Int) := by omega
    have z2 : ((64 * (b.length / 64) : Nat) : Int) ≤ ((bv b).length : Int) := by rw [List.length_map]; omega
    have y1 := decide_eq_true z1
    have y2 := decide_eq_true z2
    generalize blk v b (b.length / 64) = u at *
    conv => whnf
    iterate 1 (conv => arg 2; repeat (first | rw [y1] | rw [y2] | rw [leT z1] | rw [leT z2] | (whnf; arg 2))
               conv => whnf)
    refine ⟨_, c3.nilS1, ?_⟩
    conv => whnf
    refine ⟨_, c4.nilS1, ?_⟩
    conv => whnf
    refine iteF rfl ?_
    conv => whnf
    refine iteF rfl ?_
    conv => whnf
    have c6' : Fn Tryd.prog X.G 25 [hsv ⟨u, [], ((M + 64 * (b.length / 64) : Nat) : Int)⟩, hsv ⟨u, [], IntKind.i64.wrap (IntKind.i64.wrap (64 * (m : Int)) + ((64 * (b.length / 64) : Nat) : Int))⟩] (.p (.b true)) := by
      rw [eN1]
      exact c6
    refine ⟨_, c6'.nilS2, ?_⟩
    conv => whnf
    refine iteT rfl ?_
    conv => whnf
    refine iteF (by show (!PV.same (AM.hw u) (AM.hw u)) = false; rw [hwT]; rfl) ?_
    conv => whnf
    refine iteF (by
      show (((M + b.length : Nat) : Int) != IntKind.i64.wrap (IntKind.i64.wrap (64 * (m : Int)) + ((bv b).length : Int))) = false
      rw [eN2]
      simp) ?_
    conv => whnf
    iterate 1 (conv => arg 2; repeat (first | rw [y1] | rw [y2] | rw [leT z1] | rw [leT z2] | (whnf; arg 2))
               conv => whnf)
    refine ⟨_, c7', ?_⟩
    conv => whnf
    refine iteT rfl ?_
    conv => whnf
    refine ⟨_, c8, ?_⟩
    conv => whnf
    iterate 1 (conv => arg 2; repeat (first | rw [y1] | rw [y2] | rw [leT z1] | rw [leT z2] | (whnf; arg 2))
               conv => whnf)
    refine ⟨_, c5.nilS1, ?_⟩
    conv => whnf
    refine ⟨_, c8, ?_⟩
    conv => whnf
    refine iteT rfl ?_
    conv => whnf
    refine iteT rfl ?_
    conv => whnf
    refine iteT rfl ?_
    conv => whnf
    refine iteT (same_dvT d) ?_
    conv => whnf
    refine ⟨_, f28_ok, ?_⟩
    conv => whnf
    refine iteT rfl ?_
    rfl
end Go.Proofs.YtpbildnhhafohaaDoor.AM
