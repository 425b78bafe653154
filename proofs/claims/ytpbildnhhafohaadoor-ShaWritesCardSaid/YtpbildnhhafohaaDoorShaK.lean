/- ShaWrites: the walk of the law. -/
import Derived.Test.YtpbildnhhafohaaDoorShaJ
namespace Go.Proofs.YtpbildnhhafohaaDoor.AM
open Go Go.Proofs
set_option maxRecDepth 100000

theorem Fn.nilS {P : Program} {G : Globs} {f : Nat} {s t : Sh} {a x y : AV} {bs : List AV} {r : AV} (h : Fn P G f (a :: .st [x, .ro s [], y] :: bs) r) : Fn P G f (a :: .st [x, .ro t [], y] :: bs) r :=
  h.args fun w vs hv => by
    match vs, hv with
    | _ :: v :: _, hv =>
      refine ⟨hv.1, ?_, hv.2.2⟩
      have h2 := hv.2.1
      simp only [Rel] at h2 ⊢
      obtain ⟨us, hu, hst, e⟩ := h2
      refine ⟨us, ?_, fun z hz => ?_, e⟩
      · match us, hu with
        | [_, _, _], hu => exact ⟨hu.1, rel_ro_nil hu.2.1, hu.2.2.1, trivial⟩
      · have : z = x ∨ z = .ro s [] ∨ z = y := by simpa using hz
        rcases this with rfl | rfl | rfl
        · exact hst _ (by simp)
        · rfl
        · exact hst _ (by simp)
set_option maxHeartbeats 8000000 in
theorem f4_ok (h : Hs) (b : List Int) (hr : byt h.r) (hb : byt b) : Fn Tryd.prog X.G 4 [hsv h, bvs b] (.p (.b true)) := by
  refine Fn.intro (I := [ 22 ]) hX hm 0 Tryd.func4 rfl rfl (by kernel_rfl) rfl ?_
  have cV := f51_ok h
  have c1 := f21_ok h b hr hb
  have c2 := f23_ok h hr
  have c3 := f24_ok h hr
  have eE : wrE h b = if validH h = true then (if (b.length : Int) > 128000 - h.n then 4 else 0) else 8 := rfl
  have eD : wrD h b = if wrE h b = 0 then writeH h b else h00 := rfl
  generalize fiD h = d at *
  generalize fiE h = e at *
  generalize wrE h b = we at *
  generalize wrD h b = wd at *
  obtain ⟨w, r, n⟩ := h
  dsimp only at *
  conv => whnf
  refine iteC (fun h => ?_) (fun h => ?_)
  · rfl
  have hlb := of_decide_eq_false h
  rw [List.length_map] at hlb
  conv => whnf
  refine iteC (fun h => ?_) (fun h => ?_)
  · rfl
  have hlr := of_decide_eq_false h
  have hlr : ¬ ((bv r).length : Int) > 200 := hlr
  rw [List.length_map] at hlr
  have c4 := f25_ok ⟨w, r, n⟩ ⟨w, r, n⟩ (by dsimp only; omega)
  have c5 := f20_ok b b (by omega)
  have c0 := f25_ok ⟨first, [], 0⟩ ⟨first, [], 0⟩ (by simp)
  rw [decide_eq_true rfl] at c0 c4 c5
  conv => whnf
  conv => arg 2; repeat (first | rw [capN _ (by simp; omega)] | (whnf; arg 2))
  conv => whnf
  conv => arg 2; repeat (first | rw [capN _ (by simp; omega)] | (whnf; arg 2))
  conv => whnf
  refine ⟨_, c1, ?_⟩
  conv => whnf
  refine InlS.intro (I := []) hX hm 4000 Tryd.func22 rfl rfl (by kernel_rfl) rfl ?_
  cases hv : validH ⟨w, r, n⟩ with
  | false =>
    have eE : we = 8 := by rw [eE, hv]; rfl
    have eD : wd = h00 := by rw [eD, eE]; rfl
    have c6 := f25_ok h00 h00 (by simp [h00])
    rw [decide_eq_true rfl] at c6
    subst eD
    rw [hv] at cV
    conv => whnf
    refine ⟨_, cV, ?_⟩
    conv => whnf
    refine iteF rfl ?_
    conv => whnf
    refine ⟨_, c2, ?_⟩
    conv => whnf
    refine ⟨_, c3, ?_⟩
    conv => whnf
    refine ⟨_, c4, ?_⟩
    conv => whnf
    refine iteT rfl ?_
    conv => whnf
    refine ⟨_, c5, ?_⟩
    conv => whnf
    refine iteT rfl ?_
    conv => whnf
    refine LoopJ.intro (I := []) (base' := 0) hX hm (by kernel_rfl) (σ := Nat × List Int) (fun s => [(5, .ptr 40 []), (7, .ptr 56 []), (8, .p (.i .i64 we)), (9, .ptr 72 []), (10, .p (.i .i64 8)), (11, .ptr 88 []), (12, .p (.i .i64 e)), (13, .ptr 104 []), (14, .p (.i .i64 e)), (6, .own 296), (15, .p (.i .i64 s.1))])
      (fun s => [(40, .var (.st [.p (hw w), .own 248, .p (.i .i64 n)])), (56, .var (.st [.p (hw h00.w), .own 329, .p (.i .i64 h00.n)])), (329, .els true ush (bv h00.r)), (72, .var (.st [.p (.arr 8 wsh (List.replicate 8 (.i .u32 0))), .nil, .p (.i .i64 0)])), (88, .var (.p (dv d))), (104, .var (.p (dv d))), (248, .els true ush (bv r)), (296, .els true ush (bv s.2))]) (fun s => s.1 ≤ b.length ∧ s.2.length = b.length) (fun s => b.length - s.1) (0, b) []
      ⟨Nat.zero_le _, rfl⟩ ⟨nofun, rfl, ⟨rfl, rfl, rfl, rfl, rfl, rfl, rfl, rfl, rfl, rfl, rfl, rfl, rfl, rfl, rfl, rfl, rfl, rfl, rfl, rfl, rfl, rfl, trivial⟩, ⟨rfl, rfl, rfl, rfl, rfl, rfl, rfl, rfl, rfl, rfl, rfl, rfl, rfl, rfl, rfl, rfl, trivial⟩⟩ ?_
    intro s hs
    obtain ⟨hs1, hs2⟩ := hs
    conv => whnf
    refine iteC (fun h => ?_) (fun h => ?_)
    · have h := of_decide_eq_true h
      rw [List.length_map] at h
      have hlt : s.1 < s.2.length := by omega
      have ga := getM (f := PV.i .u8) hlt
      have gn := nthM (f := PV.i .u8) hlt
      conv => whnf
      iterate 4 (conv => arg 2; repeat (first | rw [ga] | rw [gn] | (whnf; arg 2))
                 conv => whnf)
      refine ⟨(s.1 + 1, s.2.set s.1 (IntKind.u8.wrap (s.2[s.1] + 1))), [], ⟨by dsimp only; omega, by simp [hs2]⟩, by dsimp only; omega, nofun, rfl, ⟨rfl, rfl, rfl, rfl, rfl, rfl, rfl, rfl, rfl, rfl, rfl, rfl, rfl, rfl, rfl, rfl, rfl, rfl, rfl, rfl, incN (by omega), rfl, trivial⟩, ⟨rfl, rfl, rfl, rfl, rfl, rfl, rfl, rfl, rfl, rfl, rfl, rfl, rfl, rfl, ?_, rfl, trivial⟩⟩
      show some (Blk.els true ush ((bv s.2).set (s.1 : Int).toNat (.i .u8 (IntKind.u8.wrap (s.2[s.1] + 1))))) = some (Blk.els true ush (bv (s.2.set s.1 (IntKind.u8.wrap (s.2[s.1] + 1)))))
      rw [Int.toNat_natCast]
      simp only [bv, List.map_set]
    · clear h
      conv => whnf
      refine LoopJ.intro (I := []) (base' := 0) hX hm (by kernel_rfl) (σ := Nat × List Int) (fun s => [(5, .ptr 40 []), (7, .ptr 56 []), (8, .p (.i .i64 we)), (9, .ptr 72 []), (10, .p (.i .i64 8)), (11, .ptr 88 []), (12, .p (.i .i64 e)), (13, .ptr 104 []), (14, .p (.i .i64 e)), (16, .p (.i .i64 s.1))])
        (fun s => [(40, .var (.st [.p (hw w), .own 248, .p (.i .i64 n)])), (56, .var (.st [.p (hw h00.w), .own 329, .p (.i .i64 h00.n)])), (329, .els true ush (bv h00.r)), (72, .var (.st [.p (.arr 8 wsh (List.replicate 8 (.i .u32 0))), .nil, .p (.i .i64 0)])), (88, .var (.p (dv d))), (104, .var (.p (dv d))), (248, .els true ush (bv s.2))]) (fun s => s.1 ≤ r.length ∧ s.2.length = r.length) (fun s => r.length - s.1) (0, r) []
        ⟨Nat.zero_le _, rfl⟩ ⟨nofun, rfl, ⟨rfl, rfl, rfl, rfl, rfl, rfl, rfl, rfl, rfl, rfl, rfl, rfl, rfl, rfl, rfl, rfl, rfl, rfl, rfl, rfl, trivial⟩, ⟨rfl, rfl, rfl, rfl, rfl, rfl, rfl, rfl, rfl, rfl, rfl, rfl, rfl, rfl, trivial⟩⟩ ?_
      clear hs1 hs2 s
      intro s hs
      obtain ⟨hs1, hs2⟩ := hs
      conv => whnf
      refine iteC (fun h => ?_) (fun h => ?_)
      · have h := of_decide_eq_true h
        have h : (s.1 : Int) < ((bv s.2).length : Int) := h
        rw [List.length_map] at h
        have hlt : s.1 < s.2.length := by omega
        have ga := getM (f := PV.i .u8) hlt
        have gn := nthM (f := PV.i .u8) hlt
        conv => whnf
        iterate 4 (conv => arg 2; repeat (first | rw [ga] | rw [gn] | (whnf; arg 2))
                   conv => whnf)
        refine ⟨(s.1 + 1, s.2.set s.1 (IntKind.u8.wrap (s.2[s.1] + 1))), [], ⟨by dsimp only; omega, by simp [hs2]⟩, by dsimp only; omega, nofun, rfl, ⟨rfl, rfl, rfl, rfl, rfl, rfl, rfl, rfl, rfl, rfl, rfl, rfl, rfl, rfl, rfl, rfl, rfl, rfl, incN (by omega), rfl, trivial⟩, ⟨rfl, rfl, rfl, rfl, rfl, rfl, rfl, rfl, rfl, rfl, rfl, rfl, ?_, rfl, trivial⟩⟩
        show some (Blk.els true ush ((bv s.2).set (s.1 : Int).toNat (.i .u8 (IntKind.u8.wrap (s.2[s.1] + 1))))) = some (Blk.els true ush (bv (s.2.set s.1 (IntKind.u8.wrap (s.2[s.1] + 1)))))
        rw [Int.toNat_natCast]
        simp only [bv, List.map_set]
      · clear h
        conv => whnf
        refine ⟨_, f26_ok, ?_⟩
        conv => whnf
        refine ⟨_, f27_ok, ?_⟩
        conv => whnf
        refine ⟨_, c0, ?_⟩
        conv => whnf
        refine iteT rfl ?_
        conv => whnf
        refine ⟨_, c6.nilS, ?_⟩
        conv => whnf
        refine iteT rfl ?_
        conv => whnf
        refine iteT (by rw [eE]; rfl) ?_
        conv => whnf
        refine iteT (same_dvT d) ?_
        conv => whnf
        refine iteT (beq_self_eq_true _) ?_
        rfl
  | true =>
    obtain ⟨m, hm1, hm2, hm3⟩ := valid_spec hv
    dsimp only at hm1 hm3
    subst hm1
    rw [hv] at cV
    have e1 : IntKind.i64.wrap (128000 - (m : Int)) = 128000 - (m : Int) := wr_i64 (by omega) (by omega)
    rw [if_pos hv] at eE
    conv => whnf
    refine ⟨_, cV, ?_⟩
    conv => whnf
    refine iteT rfl ?_
    conv => whnf
    refine iteC (fun h => ?_) (fun h => ?_)
    · have h1 := of_decide_eq_true h
      rw [e1, List.length_map] at h1
      rw [if_pos h1] at eE
      have eD : wd = h00 := by rw [eD, eE]; rfl
      have c6 := f25_ok h00 h00 (by simp [h00])
      rw [decide_eq_true rfl] at c6
      subst eD
      conv => whnf
      refine ⟨_, c2, ?_⟩
      conv => whnf
      refine ⟨_, c3, ?_⟩
      conv => whnf
      refine ⟨_, c4, ?_⟩
      conv => whnf
      refine iteT rfl ?_
      conv => whnf
      refine ⟨_, c5, ?_⟩
      conv => whnf
      refine iteT rfl ?_
      conv => whnf
      refine LoopJ.intro (I := []) (base' := 0) hX hm (by kernel_rfl) (σ := Nat × List Int) (fun s => [(5, .ptr 40 []), (7, .ptr 56 []), (8, .p (.i .i64 we)), (9, .ptr 72 []), (10, .p (.i .i64 4)), (11, .ptr 88 []), (12, .p (.i .i64 e)), (13, .ptr 104 []), (14, .p (.i .i64 e)), (6, .own 296), (15, .p (.i .i64 s.1))])
        (fun s => [(40, .var (.st [.p (hw w), .own 248, .p (.i .i64 (m : Int))])), (56, .var (.st [.p (hw h00.w), .own 329, .p (.i .i64 h00.n)])), (329, .els true ush (bv h00.r)), (72, .var (.st [.p (.arr 8 wsh (List.replicate 8 (.i .u32 0))), .nil, .p (.i .i64 0)])), (88, .var (.p (dv d))), (104, .var (.p (dv d))), (248, .els true ush (bv r)), (296, .els true ush (bv s.2))]) (fun s => s.1 ≤ b.length ∧ s.2.length = b.length) (fun s => b.length - s.1) (0, b) []
        ⟨Nat.zero_le _, rfl⟩ ⟨nofun, rfl, ⟨rfl, rfl, rfl, rfl, rfl, rfl, rfl, rfl, rfl, rfl, rfl, rfl, rfl, rfl, rfl, rfl, rfl, rfl, rfl, rfl, rfl, rfl, trivial⟩, ⟨rfl, rfl, rfl, rfl, rfl, rfl, rfl, rfl, rfl, rfl, rfl, rfl, rfl, rfl, rfl, rfl, trivial⟩⟩ ?_
      intro s hs
      obtain ⟨hs1, hs2⟩ := hs
      conv => whnf
      refine iteC (fun h => ?_) (fun h => ?_)
      · have h := of_decide_eq_true h
        rw [List.length_map] at h
        have hlt : s.1 < s.2.length := by omega
        have ga := getM (f := PV.i .u8) hlt
        have gn := nthM (f := PV.i .u8) hlt
        conv => whnf
        iterate 4 (conv => arg 2; repeat (first | rw [ga] | rw [gn] | (whnf; arg 2))
                   conv => whnf)
        refine ⟨(s.1 + 1, s.2.set s.1 (IntKind.u8.wrap (s.2[s.1] + 1))), [], ⟨by dsimp only; omega, by simp [hs2]⟩, by dsimp only; omega, nofun, rfl, ⟨rfl, rfl, rfl, rfl, rfl, rfl, rfl, rfl, rfl, rfl, rfl, rfl, rfl, rfl, rfl, rfl, rfl, rfl, rfl, rfl, incN (by omega), rfl, trivial⟩, ⟨rfl, rfl, rfl, rfl, rfl, rfl, rfl, rfl, rfl, rfl, rfl, rfl, rfl, rfl, ?_, rfl, trivial⟩⟩
        show some (Blk.els true ush ((bv s.2).set (s.1 : Int).toNat (.i .u8 (IntKind.u8.wrap (s.2[s.1] + 1))))) = some (Blk.els true ush (bv (s.2.set s.1 (IntKind.u8.wrap (s.2[s.1] + 1)))))
        rw [Int.toNat_natCast]
        simp only [bv, List.map_set]
      · clear h
        conv => whnf
        refine LoopJ.intro (I := []) (base' := 0) hX hm (by kernel_rfl) (σ := Nat × List Int) (fun s => [(5, .ptr 40 []), (7, .ptr 56 []), (8, .p (.i .i64 we)), (9, .ptr 72 []), (10, .p (.i .i64 4)), (11, .ptr 88 []), (12, .p (.i .i64 e)), (13, .ptr 104 []), (14, .p (.i .i64 e)), (16, .p (.i .i64 s.1))])
          (fun s => [(40, .var (.st [.p (hw w), .own 248, .p (.i .i64 (m : Int))])), (56, .var (.st [.p (hw h00.w), .own 329, .p (.i .i64 h00.n)])), (329, .els true ush (bv h00.r)), (72, .var (.st [.p (.arr 8 wsh (List.replicate 8 (.i .u32 0))), .nil, .p (.i .i64 0)])), (88, .var (.p (dv d))), (104, .var (.p (dv d))), (248, .els true ush (bv s.2))]) (fun s => s.1 ≤ r.length ∧ s.2.length = r.length) (fun s => r.length - s.1) (0, r) []
          ⟨Nat.zero_le _, rfl⟩ ⟨nofun, rfl, ⟨rfl, rfl, rfl, rfl, rfl, rfl, rfl, rfl, rfl, rfl, rfl, rfl, rfl, rfl, rfl, rfl, rfl, rfl, rfl, rfl, trivial⟩, ⟨rfl, rfl, rfl, rfl, rfl, rfl, rfl, rfl, rfl, rfl, rfl, rfl, rfl, rfl, trivial⟩⟩ ?_
        clear hs1 hs2 s
        intro s hs
        obtain ⟨hs1, hs2⟩ := hs
        conv => whnf
        refine iteC (fun h => ?_) (fun h => ?_)
        · have h := of_decide_eq_true h
          have h : (s.1 : Int) < ((bv s.2).length : Int) := h
          rw [List.length_map] at h
          have hlt : s.1 < s.2.length := by omega
          have ga := getM (f := PV.i .u8) hlt
          have gn := nthM (f := PV.i .u8) hlt
          conv => whnf
          iterate 4 (conv => arg 2; repeat (first | rw [ga] | rw [gn] | (whnf; arg 2))
                     conv => whnf)
          refine ⟨(s.1 + 1, s.2.set s.1 (IntKind.u8.wrap (s.2[s.1] + 1))), [], ⟨by dsimp only; omega, by simp [hs2]⟩, by dsimp only; omega, nofun, rfl, ⟨rfl, rfl, rfl, rfl, rfl, rfl, rfl, rfl, rfl, rfl, rfl, rfl, rfl, rfl, rfl, rfl, rfl, rfl, incN (by omega), rfl, trivial⟩, ⟨rfl, rfl, rfl, rfl, rfl, rfl, rfl, rfl, rfl, rfl, rfl, rfl, ?_, rfl, trivial⟩⟩
          show some (Blk.els true ush ((bv s.2).set (s.1 : Int).toNat (.i .u8 (IntKind.u8.wrap (s.2[s.1] + 1))))) = some (Blk.els true ush (bv (s.2.set s.1 (IntKind.u8.wrap (s.2[s.1] + 1)))))
          rw [Int.toNat_natCast]
          simp only [bv, List.map_set]
        · clear h
          conv => whnf
          refine ⟨_, f26_ok, ?_⟩
          conv => whnf
          refine ⟨_, f27_ok, ?_⟩
          conv => whnf
          refine ⟨_, c0, ?_⟩
          conv => whnf
          refine iteT rfl ?_
          conv => whnf
          refine ⟨_, c6.nilS, ?_⟩
          conv => whnf
          refine iteT rfl ?_
          conv => whnf
          refine iteT (by rw [eE]; rfl) ?_
          conv => whnf
          refine iteT (same_dvT d) ?_
          conv => whnf
          refine iteT (beq_self_eq_true _) ?_
          rfl
    · have h1 := of_decide_eq_false h
      rw [e1, List.length_map] at h1
      rw [if_neg h1] at eE
      have eD : wd = writeH ⟨w, r, m⟩ b := by rw [eD, eE]; rfl
      have eW : wd.r = (r ++ b).drop (64 * ((r ++ b).length / 64)) := by rw [eD]; rfl
      have la : (r ++ b).length ≤ 800000 := by simp; omega
      have ca := f52_ok w (r ++ b) (byt_append hr hb) la
      rw [show bvs (r ++ b) = .ro ush (bv r ++ bv b) from by rw [← bv_app]] at ca
      have hlen : (List.replicate 0 (PV.i .u8 0) ++ bv r ++ bv b).length = (r ++ b).length := by simp
      have q1 : IntKind.i64.wrap ((((List.replicate 0 (PV.i .u8 0) ++ bv r ++ bv b).length : Nat) : Int).tdiv 64) = (((r ++ b).length / 64 : Nat) : Int) := by
        rw [hlen, show (((r ++ b).length : Nat) : Int).tdiv 64 = (((r ++ b).length / 64 : Nat) : Int) from rfl, wr_i64 (by omega) (by omega)]
      have q2 : IntKind.i64.wrap (IntKind.i64.wrap ((((List.replicate 0 (PV.i .u8 0) ++ bv r ++ bv b).length : Nat) : Int).tdiv 64) * 64) = ((64 * ((r ++ b).length / 64) : Nat) : Int) := by
        rw [q1, wr_i64 (by omega) (by omega)]; omega
      have z1 : 0 ≤ IntKind.i64.wrap (IntKind.i64.wrap ((((List.replicate 0 (PV.i .u8 0) ++ bv r ++ bv b).length : Nat) : Int).tdiv 64) * 64) := by rw [q2]; omega
      have z2 : IntKind.i64.wrap (IntKind.i64.wrap ((((List.replicate 0 (PV.i .u8 0) ++ bv r ++ bv b).length : Nat) : Int).tdiv 64) * 64) ≤ (((List.replicate 0 (PV.i .u8 0) ++ bv r ++ bv b).length : Nat) : Int) := by rw [q2, hlen]; omega
      have y1 := decide_eq_true z1
      have y2 := decide_eq_true z2
      have hwd : (r ++ b).length / 64 * 64 ≤ (r ++ b).length := by omega
      have c6 := f25_ok wd wd (by rw [eW]; simp; omega)
      rw [decide_eq_true rfl] at c6
      have eL : (List.replicate 0 (PV.i .u8 0) ++ bv r ++ bv b) = bv (r ++ b) := by simp
      have e6 : hsv wd = .st [.p (hw (afterV w (r ++ b))), .ro ush (List.take ((List.replicate 0 (PV.i .u8 0) ++ bv r ++ bv b).length - (IntKind.i64.wrap (IntKind.i64.wrap ((((List.replicate 0 (PV.i .u8 0) ++ bv r ++ bv b).length : Nat) : Int).tdiv 64) * 64)).toNat) (List.drop ((IntKind.i64.wrap (IntKind.i64.wrap ((((List.replicate 0 (PV.i .u8 0) ++ bv r ++ bv b).length : Nat) : Int).tdiv 64) * 64)).toNat) (List.replicate 0 (PV.i .u8 0) ++ bv r ++ bv b))), .p (.i .i64 (IntKind.i64.wrap ((m : Int) + ((bv b).length : Int))))] := by
        rw [eD, q2, Int.toNat_natCast, hlen, eL, ← bvs_sub, List.take_of_length_le (by simp), List.length_map]
        rfl
      have c7 : Fn Tryd.prog X.G 25 [hsv wd, .st [.p (hw (afterV w (r ++ b))), .ro ush (List.take ((List.replicate 0 (PV.i .u8 0) ++ bv r ++ bv b).length - (IntKind.i64.wrap (IntKind.i64.wrap ((((List.replicate 0 (PV.i .u8 0) ++ bv r ++ bv b).length : Nat) : Int).tdiv 64) * 64)).toNat) (List.drop ((IntKind.i64.wrap (IntKind.i64.wrap ((((List.replicate 0 (PV.i .u8 0) ++ bv r ++ bv b).length : Nat) : Int).tdiv 64) * 64)).toNat) (List.replicate 0 (PV.i .u8 0) ++ bv r ++ bv b))), .p (.i .i64 (IntKind.i64.wrap ((m : Int) + ((bv b).length : Int))))]] (.p (.b true)) := by
        rw [← e6]
        exact c6
      conv => whnf
      conv => arg 2; repeat (first | rw [capN _ (by simp; omega)] | (whnf; arg 2))
      conv => whnf
      conv => arg 2; repeat (first | rw [capN _ (by simp; omega)] | (whnf; arg 2))
      conv => whnf
      refine ⟨_, ca, ?_⟩
      conv => whnf
      iterate 2 (conv => arg 2; repeat (first | rw [y1] | rw [y2] | rw [leT z1] | rw [leT z2] | (whnf; arg 2))
                 conv => whnf)
      refine ⟨_, c2, ?_⟩
      conv => whnf
      refine ⟨_, c3, ?_⟩
      conv => whnf
      refine ⟨_, c4, ?_⟩
      conv => whnf
      refine iteT rfl ?_
      conv => whnf
      refine ⟨_, c5, ?_⟩
      conv => whnf
      refine iteT rfl ?_
      conv => whnf
      refine LoopJ.intro (I := []) (base' := 0) hX hm (by kernel_rfl) (σ := Nat × List Int) (fun s => [(5, .ptr 40 []), (7, .ptr 56 []), (8, .p (.i .i64 we)), (9, .ptr 72 []), (10, .p (.i .i64 0)), (11, .ptr 88 []), (12, .p (.i .i64 e)), (13, .ptr 104 []), (14, .p (.i .i64 e)), (6, .own 296), (15, .p (.i .i64 s.1))])
        (fun s => [(40, .var (.st [.p (hw w), .own 248, .p (.i .i64 (m : Int))])), (56, .var (.st [.p (hw wd.w), .own 329, .p (.i .i64 wd.n)])), (329, .els true ush (bv wd.r)), (72, .var (.st [.p (hw (afterV w (r ++ b))), .sl 4184 ((IntKind.i64.wrap (IntKind.i64.wrap ((((List.replicate 0 (PV.i .u8 0) ++ bv r ++ bv b).length : Nat) : Int).tdiv 64) * 64)).toNat) ((List.replicate 0 (PV.i .u8 0) ++ bv r ++ bv b).length - (IntKind.i64.wrap (IntKind.i64.wrap ((((List.replicate 0 (PV.i .u8 0) ++ bv r ++ bv b).length : Nat) : Int).tdiv 64) * 64)).toNat), .p (.i .i64 (IntKind.i64.wrap ((m : Int) + ((bv b).length : Int))))])), (88, .var (.p (dv d))), (104, .var (.p (dv d))), (4184, .els true ush (List.replicate 0 (PV.i .u8 0) ++ bv r ++ bv b)), (248, .els true ush (bv r)), (296, .els true ush (bv s.2))]) (fun s => s.1 ≤ b.length ∧ s.2.length = b.length) (fun s => b.length - s.1) (0, b) []
        ⟨Nat.zero_le _, rfl⟩ ⟨nofun, rfl, ⟨rfl, rfl, rfl, rfl, rfl, rfl, rfl, rfl, rfl, rfl, rfl, rfl, rfl, rfl, rfl, rfl, rfl, rfl, rfl, rfl, rfl, rfl, trivial⟩, ⟨rfl, rfl, rfl, rfl, rfl, rfl, rfl, rfl, rfl, rfl, rfl, rfl, rfl, rfl, rfl, rfl, rfl, rfl, trivial⟩⟩ ?_
      intro s hs
      obtain ⟨hs1, hs2⟩ := hs
      conv => whnf
      refine iteC (fun h => ?_) (fun h => ?_)
      · have h := of_decide_eq_true h
        rw [List.length_map] at h
        have hlt : s.1 < s.2.length := by omega
        have ga := getM (f := PV.i .u8) hlt
        have gn := nthM (f := PV.i .u8) hlt
        conv => whnf
        iterate 4 (conv => arg 2; repeat (first | rw [ga] | rw [gn] | (whnf; arg 2))
                   conv => whnf)
        refine ⟨(s.1 + 1, s.2.set s.1 (IntKind.u8.wrap (s.2[s.1] + 1))), [], ⟨by dsimp only; omega, by simp [hs2]⟩, by dsimp only; omega, nofun, rfl, ⟨rfl, rfl, rfl, rfl, rfl, rfl, rfl, rfl, rfl, rfl, rfl, rfl, rfl, rfl, rfl, rfl, rfl, rfl, rfl, rfl, incN (by omega), rfl, trivial⟩, ⟨rfl, rfl, rfl, rfl, rfl, rfl, rfl, rfl, rfl, rfl, rfl, rfl, rfl, rfl, rfl, rfl, ?_, rfl, trivial⟩⟩
        show some (Blk.els true ush ((bv s.2).set (s.1 : Int).toNat (.i .u8 (IntKind.u8.wrap (s.2[s.1] + 1))))) = some (Blk.els true ush (bv (s.2.set s.1 (IntKind.u8.wrap (s.2[s.1] + 1)))))
        rw [Int.toNat_natCast]
        simp only [bv, List.map_set]
      · clear h
        conv => whnf
        refine LoopJ.intro (I := []) (base' := 0) hX hm (by kernel_rfl) (σ := Nat × List Int) (fun s => [(5, .ptr 40 []), (7, .ptr 56 []), (8, .p (.i .i64 we)), (9, .ptr 72 []), (10, .p (.i .i64 0)), (11, .ptr 88 []), (12, .p (.i .i64 e)), (13, .ptr 104 []), (14, .p (.i .i64 e)), (16, .p (.i .i64 s.1))])
          (fun s => [(40, .var (.st [.p (hw w), .own 248, .p (.i .i64 (m : Int))])), (56, .var (.st [.p (hw wd.w), .own 329, .p (.i .i64 wd.n)])), (329, .els true ush (bv wd.r)), (72, .var (.st [.p (hw (afterV w (r ++ b))), .sl 4184 ((IntKind.i64.wrap (IntKind.i64.wrap ((((List.replicate 0 (PV.i .u8 0) ++ bv r ++ bv b).length : Nat) : Int).tdiv 64) * 64)).toNat) ((List.replicate 0 (PV.i .u8 0) ++ bv r ++ bv b).length - (IntKind.i64.wrap (IntKind.i64.wrap ((((List.replicate 0 (PV.i .u8 0) ++ bv r ++ bv b).length : Nat) : Int).tdiv 64) * 64)).toNat), .p (.i .i64 (IntKind.i64.wrap ((m : Int) + ((bv b).length : Int))))])), (88, .var (.p (dv d))), (104, .var (.p (dv d))), (4184, .els true ush (List.replicate 0 (PV.i .u8 0) ++ bv r ++ bv b)), (248, .els true ush (bv s.2))]) (fun s => s.1 ≤ r.length ∧ s.2.length = r.length) (fun s => r.length - s.1) (0, r) []
          ⟨Nat.zero_le _, rfl⟩ ⟨nofun, rfl, ⟨rfl, rfl, rfl, rfl, rfl, rfl, rfl, rfl, rfl, rfl, rfl, rfl, rfl, rfl, rfl, rfl, rfl, rfl, rfl, rfl, trivial⟩, ⟨rfl, rfl, rfl, rfl, rfl, rfl, rfl, rfl, rfl, rfl, rfl, rfl, rfl, rfl, rfl, rfl, trivial⟩⟩ ?_
        clear hs1 hs2 s
        intro s hs
        obtain ⟨hs1, hs2⟩ := hs
        conv => whnf
        refine iteC (fun h => ?_) (fun h => ?_)
        · have h := of_decide_eq_true h
          have h : (s.1 : Int) < ((bv s.2).length : Int) := h
          rw [List.length_map] at h
          have hlt : s.1 < s.2.length := by omega
          have ga := getM (f := PV.i .u8) hlt
          have gn := nthM (f := PV.i .u8) hlt
          conv => whnf
          iterate 4 (conv => arg 2; repeat (first | rw [ga] | rw [gn] | (whnf; arg 2))
                     conv => whnf)
          refine ⟨(s.1 + 1, s.2.set s.1 (IntKind.u8.wrap (s.2[s.1] + 1))), [], ⟨by dsimp only; omega, by simp [hs2]⟩, by dsimp only; omega, nofun, rfl, ⟨rfl, rfl, rfl, rfl, rfl, rfl, rfl, rfl, rfl, rfl, rfl, rfl, rfl, rfl, rfl, rfl, rfl, rfl, incN (by omega), rfl, trivial⟩, ⟨rfl, rfl, rfl, rfl, rfl, rfl, rfl, rfl, rfl, rfl, rfl, rfl, rfl, rfl, ?_, rfl, trivial⟩⟩
          show some (Blk.els true ush ((bv s.2).set (s.1 : Int).toNat (.i .u8 (IntKind.u8.wrap (s.2[s.1] + 1))))) = some (Blk.els true ush (bv (s.2.set s.1 (IntKind.u8.wrap (s.2[s.1] + 1)))))
          rw [Int.toNat_natCast]
          simp only [bv, List.map_set]
        · clear h
          conv => whnf
          refine ⟨_, f26_ok, ?_⟩
          conv => whnf
          refine ⟨_, f27_ok, ?_⟩
          conv => whnf
          refine ⟨_, c0, ?_⟩
          conv => whnf
          refine iteT rfl ?_
          conv => whnf
          refine ⟨_, c7, ?_⟩
          conv => whnf
          refine iteT rfl ?_
          conv => whnf
          refine iteT (by rw [eE]; rfl) ?_
          conv => whnf
          refine iteT (same_dvT d) ?_
          conv => whnf
          refine iteT (beq_self_eq_true _) ?_
          rfl
end Go.Proofs.YtpbildnhhafohaaDoor.AM
