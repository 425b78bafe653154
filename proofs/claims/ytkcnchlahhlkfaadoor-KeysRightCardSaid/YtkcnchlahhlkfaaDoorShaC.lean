/- Sha: the reference takes in a block. -/
import Derived.Test.YtkcnchlahhlkfaaDoorShaB
namespace Go.Proofs.YtkcnchlahhlkfaaDoor.AM
open Go Go.Proofs
set_option maxRecDepth 100000

theorem f149_ok : Fn Tryd.prog X.G 149 [] (.ro wsh (wv constsL)) := by
  refine Fn.intro (I := []) hX hm 0 Tryd.func149 rfl rfl (by kernel_rfl) rfl ?_
  conv => whnf
  rfl
theorem f134_ok : Fn Tryd.prog X.G 134 [] (.p (hw first)) := by
  refine Fn.intro (I := []) hX hm 0 Tryd.func134 rfl rfl (by kernel_rfl) rfl ?_
  conv => whnf
  rfl
theorem pre_get0 {L : List Int} {t k : Nat} (h : L.length = t) (hk : k ≤ t) (hk1 : 1 ≤ k) (ht : t < 1000) : getI (wv L) (IntKind.i64.wrap ((t : Int) - (k : Int))) = some (PV.i .u32 (L.getD (t - k) 0)) := by
  have := pre_get (R := []) h hk hk1 ht
  rwa [List.append_nil] at this
theorem pre_nth0 {L : List Int} {t k : Nat} (h : L.length = t) (hk : k ≤ t) (hk1 : 1 ≤ k) (ht : t < 1000) : (wv L)[(IntKind.i64.wrap ((t : Int) - (k : Int))).toNat]? = some (PV.i .u32 (L.getD (t - k) 0)) := by
  have := pre_nth (R := []) h hk hk1 ht
  rwa [List.append_nil] at this
theorem word_ref {b : List Int} (hb : byt b) (t : Nat) : IntKind.u32.wrap (IntKind.u32.wrap (IntKind.u32.wrap (IntKind.u32.wrap (IntKind.u32.wrap (b.getD (4 * t) 0) * 16777216) + IntKind.u32.wrap (IntKind.u32.wrap (b.getD (4 * t + 1) 0) * 65536)) +
    IntKind.u32.wrap (IntKind.u32.wrap (b.getD (4 * t + 2) 0) * 256)) + IntKind.u32.wrap (b.getD (4 * t + 3) 0)) = wordN b t := by
  have h0 := byt_getD hb (4 * t)
  have h1 := byt_getD hb (4 * t + 1)
  have h2 := byt_getD hb (4 * t + 2)
  have h3 := byt_getD hb (4 * t + 3)
  unfold wordN
  generalize b.getD (4 * t) 0 = a0 at *
  generalize b.getD (4 * t + 1) 0 = a1 at *
  generalize b.getD (4 * t + 2) 0 = a2 at *
  generalize b.getD (4 * t + 3) 0 = a3 at *
  rw [wr_u32 (n := a0) h0.1 (by omega), wr_u32 (n := a1) h1.1 (by omega), wr_u32 (n := a2) h2.1 (by omega), wr_u32 (n := a3) h3.1 (by omega)]
  rw [wr_u32 (n := a0 * 16777216) (by omega) (by omega), wr_u32 (n := a1 * 65536) (by omega) (by omega), wr_u32 (n := a2 * 256) (by omega) (by omega)]
  rw [wr_u32 (n := a0 * 16777216 + a1 * 65536) (by omega) (by omega), wr_u32 (n := a0 * 16777216 + a1 * 65536 + a2 * 256) (by omega) (by omega), wr_u32 (by omega) (by omega)]
  omega
set_option maxHeartbeats 8000000 in
theorem f144_ok (h : V8) (b : List Int) (hb : byt b) (hl : b.length = 64) : Fn Tryd.prog X.G 144 [.p (hw h), bvs b] (.p (hw (takeV h b))) := by
  refine Fn.intro (I := []) hX hm 0 Tryd.func144 rfl rfl (by kernel_rfl) rfl ?_
  conv => whnf
  refine LoopJ.nil 5 1000 wsh rfl rfl ?_
  refine LoopJ.intro (I := []) (base' := 0) hX hm (by kernel_rfl) (σ := Nat) (fun t => [(1, bvs b), (2, .ptr 16 []), (4, .ptr 32 []), (5, .own 1000), (6, .p (.i .i64 t))])
    (fun t => [(16, .var (.p (hw h))), (32, .var (.p (.arr 8 wsh (List.replicate 8 (.i .u32 0))))), (1000, .els true wsh (wv (W b t)))]) (fun t => t ≤ 16) (fun t => 16 - t) 0 []
    (Nat.zero_le _) ⟨nofun, rfl, ⟨rfl, rfl, rfl, rfl, rfl, rfl, rfl, rfl, rfl, rfl, trivial⟩, ⟨rfl, rfl, rfl, rfl, rfl, rfl, trivial⟩⟩ ?_
  intro t ht
  have hW := W_length b t
  conv => whnf
  refine iteC (fun h1 => ?_) (fun h1 => ?_)
  · have h1 := of_decide_eq_true h1
    have gb : ∀ {i : Int} {n : Nat}, i = ((n : Nat) : Int) → n < 64 → getI (bv b) i = some (PV.i .u8 (b.getD n 0)) := fun {i n} e hn => by
      rw [e, getM (f := PV.i .u8) (by omega)]
      simp [show n < b.length by omega]
    have e0 : IntKind.i64.wrap (4 * (t : Int)) = ((4 * t : Nat) : Int) := by rw [wr_i64 (by omega) (by omega)]; omega
    have b0 := gb e0 (by omega)
    have b1 : getI (bv b) (IntKind.i64.wrap (IntKind.i64.wrap (4 * (t : Int)) + 1)) = _ := gb (n := 4 * t + 1) (by rw [e0, wr_i64 (by omega) (by omega)]; omega) (by omega)
    have b2 : getI (bv b) (IntKind.i64.wrap (IntKind.i64.wrap (4 * (t : Int)) + 2)) = _ := gb (n := 4 * t + 2) (by rw [e0, wr_i64 (by omega) (by omega)]; omega) (by omega)
    have b3 : getI (bv b) (IntKind.i64.wrap (IntKind.i64.wrap (4 * (t : Int)) + 3)) = _ := gb (n := 4 * t + 3) (by rw [e0, wr_i64 (by omega) (by omega)]; omega) (by omega)
    conv => whnf
    iterate 4 (conv => arg 2; repeat (first | rw [b0] | rw [b1] | rw [b2] | rw [b3] | (whnf; arg 2))
               conv => whnf)
    conv => arg 2; repeat (first | rw [capN _ (by simp [hW]; omega)] | (whnf; arg 2))
    conv => whnf
    refine ⟨t + 1, [(1000, 504)], by omega, by dsimp only; omega, nofun, rfl, ⟨rfl, rfl, rfl, rfl, rfl, rfl, rfl, rfl, incN (by omega), rfl, trivial⟩, ⟨rfl, rfl, rfl, rfl, ?_, rfl, trivial⟩⟩
    rw [W_lt (by omega), wv_snoc, ← word_ref hb]
    rfl
  · have h1 := of_decide_eq_false h1
    obtain rfl : t = 16 := by omega
    conv => whnf
    refine LoopJ.intro (I := []) (base' := 0) hX hm (by kernel_rfl) (σ := Nat) (fun t => [(2, .ptr 16 []), (4, .ptr 32 []), (5, .own 1000), (7, .p (.i .i64 t))])
      (fun t => [(16, .var (.p (hw h))), (32, .var (.p (.arr 8 wsh (List.replicate 8 (.i .u32 0))))), (1000, .els true wsh (wv (W b t)))]) (fun t => 16 ≤ t ∧ t ≤ 64) (fun t => 64 - t) 16 []
      ⟨by omega, by omega⟩ ⟨nofun, rfl, ⟨rfl, rfl, rfl, rfl, rfl, rfl, rfl, rfl, trivial⟩, ⟨rfl, rfl, rfl, rfl, rfl, rfl, trivial⟩⟩ ?_
    intro t ht
    have hW := W_length b t
    conv => whnf
    refine iteC (fun h1 => ?_) (fun h1 => ?_)
    · have h1 := of_decide_eq_true h1
      have g15 : getI (wv (W b t)) (IntKind.i64.wrap ((t : Int) - 15)) = some (PV.i .u32 ((W b t).getD (t - 15) 0)) := pre_get0 (k := 15) hW (by omega) (by omega) (by omega)
      have g2 : getI (wv (W b t)) (IntKind.i64.wrap ((t : Int) - 2)) = some (PV.i .u32 ((W b t).getD (t - 2) 0)) := pre_get0 (k := 2) hW (by omega) (by omega) (by omega)
      have g16 : getI (wv (W b t)) (IntKind.i64.wrap ((t : Int) - 16)) = some (PV.i .u32 ((W b t).getD (t - 16) 0)) := pre_get0 (k := 16) hW (by omega) (by omega) (by omega)
      have g7 : getI (wv (W b t)) (IntKind.i64.wrap ((t : Int) - 7)) = some (PV.i .u32 ((W b t).getD (t - 7) 0)) := pre_get0 (k := 7) hW (by omega) (by omega) (by omega)
      have n15 : (wv (W b t))[(IntKind.i64.wrap ((t : Int) - 15)).toNat]? = some (PV.i .u32 ((W b t).getD (t - 15) 0)) := pre_nth0 (k := 15) hW (by omega) (by omega) (by omega)
      have n2 : (wv (W b t))[(IntKind.i64.wrap ((t : Int) - 2)).toNat]? = some (PV.i .u32 ((W b t).getD (t - 2) 0)) := pre_nth0 (k := 2) hW (by omega) (by omega) (by omega)
      have n16 : (wv (W b t))[(IntKind.i64.wrap ((t : Int) - 16)).toNat]? = some (PV.i .u32 ((W b t).getD (t - 16) 0)) := pre_nth0 (k := 16) hW (by omega) (by omega) (by omega)
      have n7 : (wv (W b t))[(IntKind.i64.wrap ((t : Int) - 7)).toNat]? = some (PV.i .u32 ((W b t).getD (t - 7) 0)) := pre_nth0 (k := 7) hW (by omega) (by omega) (by omega)
      conv => whnf
      iterate 4 (conv => arg 2; repeat (first | rw [g15] | rw [g2] | rw [n15] | rw [n2] | (whnf; arg 2))
                 conv => whnf)
      refine ⟨_, f148_ok _ 7 (by decide), ?_⟩
      conv => whnf
      refine ⟨_, f148_ok _ 18 (by decide), ?_⟩
      conv => whnf
      refine ⟨_, f148_ok _ 17 (by decide), ?_⟩
      conv => whnf
      refine ⟨_, f148_ok _ 19 (by decide), ?_⟩
      conv => whnf
      iterate 4 (conv => arg 2; repeat (first | rw [g16] | rw [g7] | rw [n16] | rw [n7] | (whnf; arg 2))
                 conv => whnf)
      conv => arg 2; repeat (first | rw [capN _ (by simp [hW]; omega)] | (whnf; arg 2))
      conv => whnf
      refine ⟨t + 1, [(1000, 888)], ⟨by omega, by omega⟩, by dsimp only; omega, nofun, rfl, ⟨rfl, rfl, rfl, rfl, rfl, rfl, incN (by omega), rfl, trivial⟩, ⟨rfl, rfl, rfl, rfl, ?_, rfl, trivial⟩⟩
      rw [W_ge (by omega), wv_snoc]
      rfl
    · have h1 := of_decide_eq_false h1
      obtain rfl : t = 64 := by omega
      have eT : takeV h b = h.plus (Rn h (W b 64) 64) := rfl
      rw [eT]
      generalize W b 64 = w at *
      conv => whnf
      refine ⟨_, f149_ok, ?_⟩
      conv => whnf
      refine LoopJ.intro (I := []) (base' := 0) hX hm (by kernel_rfl) (σ := Nat) (fun t => [(2, .ptr 16 []), (4, .ptr 32 []), (5, .own 1000), (12, .own 896), (13, .p (.i .u32 (Rn h w t).a)), (14, .p (.i .u32 (Rn h w t).b)), (15, .p (.i .u32 (Rn h w t).c)), (16, .p (.i .u32 (Rn h w t).d)),
          (17, .p (.i .u32 (Rn h w t).e)), (18, .p (.i .u32 (Rn h w t).f)), (19, .p (.i .u32 (Rn h w t).g)), (20, .p (.i .u32 (Rn h w t).z)), (21, .p (.i .i64 t))])
        (fun t => [(16, .var (.p (hw h))), (32, .var (.p (.arr 8 wsh (List.replicate 8 (.i .u32 0))))), (1000, .els true wsh (wv w)), (896, .els true wsh (wv constsL))]) (fun t => t ≤ 64) (fun t => 64 - t) 0 []
        (Nat.zero_le _) ⟨nofun, rfl, ⟨rfl, rfl, rfl, rfl, rfl, rfl, rfl, rfl, rfl, rfl, rfl, rfl, rfl, rfl, rfl, rfl, rfl, rfl, rfl, rfl, rfl, rfl, rfl, rfl, rfl, rfl, trivial⟩, ⟨rfl, rfl, rfl, rfl, rfl, rfl, rfl, rfl, trivial⟩⟩ ?_
      intro t ht
      conv => whnf
      refine iteC (fun h1 => ?_) (fun h1 => ?_)
      · have h1 := of_decide_eq_true h1
        have hlt : t < w.length := by omega
        have hc : t < constsL.length := by have : constsL.length = 64 := rfl; omega
        have gw : getI (wv w) (t : Int) = some (PV.i .u32 (w.getD t 0)) := by rw [getM (f := PV.i .u32) hlt]; simp [hlt]
        have nw : (wv w)[(t : Int).toNat]? = some (PV.i .u32 (w.getD t 0)) := by rw [nthM (f := PV.i .u32) hlt]; simp [hlt]
        have gk : getI (wv constsL) (t : Int) = some (PV.i .u32 (constsL.getD t 0)) := by rw [getM (f := PV.i .u32) hc]; simp [hc]
        have nk : (wv constsL)[(t : Int).toNat]? = some (PV.i .u32 (constsL.getD t 0)) := by rw [nthM (f := PV.i .u32) hc]; simp [hc]
        have hR : Rn h w (t + 1) = rnd (Rn h w t) (constsL.getD t 0) (w.getD t 0) := rfl
        generalize constsL.getD t 0 = c at *
        generalize Rn h w t = v at *
        generalize constsL = kk at *
        conv => whnf
        refine ⟨_, f148_ok _ 6 (by decide), ?_⟩
        conv => whnf
        refine ⟨_, f148_ok _ 11 (by decide), ?_⟩
        conv => whnf
        refine ⟨_, f148_ok _ 25 (by decide), ?_⟩
        conv => whnf
        iterate 4 (conv => arg 2; repeat (first | rw [gk] | rw [nk] | rw [gw] | rw [nw] | (whnf; arg 2))
                   conv => whnf)
        refine ⟨_, f148_ok _ 2 (by decide), ?_⟩
        conv => whnf
        refine ⟨_, f148_ok _ 13 (by decide), ?_⟩
        conv => whnf
        refine ⟨_, f148_ok _ 22 (by decide), ?_⟩
        conv => whnf
        refine ⟨t + 1, [], by omega, by dsimp only; omega, nofun, rfl, ⟨rfl, rfl, rfl, rfl, rfl, rfl, rfl, rfl, ?_, rfl, ?_, rfl, ?_, rfl, ?_, rfl, ?_, rfl, ?_, rfl, ?_, rfl, ?_, rfl, incN (by omega), rfl, trivial⟩, ⟨rfl, rfl, rfl, rfl, rfl, rfl, rfl, rfl, trivial⟩⟩
        all_goals (rw [hR]; rfl)
      · have h1 := of_decide_eq_false h1
        obtain rfl : t = 64 := by omega
        generalize Rn h w 64 = v
        conv => whnf
        rfl
end Go.Proofs.YtkcnchlahhlkfaaDoor.AM
