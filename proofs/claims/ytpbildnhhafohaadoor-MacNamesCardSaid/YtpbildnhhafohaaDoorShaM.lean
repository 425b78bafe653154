/- ShaParts: the walk of the law. -/
import Derived.Test.YtpbildnhhafohaaDoorShaL
namespace Go.Proofs.YtpbildnhhafohaaDoor.AM
open Go Go.Proofs
set_option maxRecDepth 100000

theorem validW {h : Hs} {b : List Int} {m : Nat} (hn : h.n = m) (hr : h.r.length = m % 64) (hb : m + b.length ≤ 128000) : wrE h b = 0 ∧ wrD h b = writeH h b ∧ (writeH h b).n = ((m + b.length : Nat) : Int) ∧ (writeH h b).r.length = (m + b.length) % 64 := by
  have hv : validH h = true := by
    unfold validH
    rw [hn, hr, decide_eq_true (by omega), decide_eq_true (by omega)]
    show (((m % 64 : Nat) : Int) == (m : Int).tmod 64) = true
    rw [show (m : Int).tmod 64 = ((m % 64 : Nat) : Int) from rfl]
    simp
  have hE : wrE h b = 0 := by
    unfold wrE
    rw [if_pos hv, if_neg (by omega)]
  refine ⟨hE, by unfold wrD; rw [if_pos hE], ?_, ?_⟩
  · show IntKind.i64.wrap (h.n + b.length) = _
    rw [hn, wr_i64 (by omega) (by omega)]
    omega
  · simp [writeH]
    omega
theorem write_two (h : Hs) (a b : List Int) {m : Nat} (hn : h.n = m) (hb : m + (a.length + b.length) ≤ 128000) : writeH (writeH h a) b = writeH h (a ++ b) := by
  have e1 : IntKind.i64.wrap (h.n + a.length) = ((m + a.length : Nat) : Int) := by rw [hn, wr_i64 (by omega) (by omega)]; omega
  unfold writeH
  dsimp only
  rw [after_append, e1]
  have hl : (List.drop (64 * ((h.r ++ a).length / 64)) (h.r ++ a) ++ b).length / 64 + (h.r ++ a).length / 64 = (h.r ++ (a ++ b)).length / 64 := by simp; omega
  have e2 : List.drop (64 * ((List.drop (64 * ((h.r ++ a).length / 64)) (h.r ++ a) ++ b).length / 64)) (List.drop (64 * ((h.r ++ a).length / 64)) (h.r ++ a) ++ b) = List.drop (64 * ((h.r ++ (a ++ b)).length / 64)) (h.r ++ (a ++ b)) := by
    rw [← hl, ← List.drop_append_of_le_length (by omega), List.drop_drop, ← List.append_assoc]
    congr 1
    omega
  rw [e2, List.append_assoc, hn]
  congr 1
  rw [wr_i64 (by omega) (by omega), wr_i64 (by simp; omega) (by simp; omega)]
  simp
  omega
def start : Hs := ⟨first, [], 0⟩
theorem fin_all (al : List Int) (h : al.length ≤ 128000) : fiE (writeH start al) = 0 ∧ fiD (writeH start al) = ofB al := by
  obtain ⟨h1, h2, h3, h4⟩ := validW (h := start) (b := al) (m := 0) rfl rfl (by omega)
  have hv : validH (writeH start al) = true := by
    unfold validH
    rw [h3, h4, decide_eq_true (by omega), decide_eq_true (by omega), show (((0 + al.length : Nat) : Int)).tmod 64 = (((0 + al.length) % 64 : Nat) : Int) from rfl]
    simp
  refine ⟨by unfold fiE; rw [if_pos hv], ?_⟩
  unfold fiD
  rw [if_pos hv, h3, Int.toNat_natCast, Nat.zero_add]
  exact finish_of al
set_option maxHeartbeats 4000000 in
theorem f6_ok (a b c : List Int) (ha : byt a) (hb : byt b) (hc : byt c) : Fn Tryd.prog X.G 6 [bvs a, bvs b, bvs c] (.p (.b true)) := by
  refine Fn.intro (I := []) hX hm 0 Tryd.func6 rfl rfl (by kernel_rfl) rfl ?_
  conv => whnf
  refine iteC (fun h => ?_) (fun h => ?_)
  · conv => whnf
    refine ⟨_, f28_ok, ?_⟩
    conv => whnf
    refine iteT rfl ?_
    rfl
  have la := of_decide_eq_false h
  rw [List.length_map] at la
  clear h
  conv => whnf
  refine iteC (fun h => ?_) (fun h => ?_)
  · conv => whnf
    refine ⟨_, f28_ok, ?_⟩
    conv => whnf
    refine iteT rfl ?_
    rfl
  have lb := of_decide_eq_false h
  rw [List.length_map] at lb
  clear h
  conv => whnf
  refine iteC (fun h => ?_) (fun h => ?_)
  · conv => whnf
    refine ⟨_, f28_ok, ?_⟩
    conv => whnf
    refine iteT rfl ?_
    rfl
  have lc := of_decide_eq_false h
  rw [List.length_map] at lc
  clear h
  have s0 : byt start.r := fun x hx => by simp [start] at hx
  have c1 := f21_ok start a s0 ha
  obtain ⟨e1, d1, n1, r1⟩ := validW (h := start) (b := a) (m := 0) rfl rfl (by omega)
  rw [e1, d1] at c1
  have b1 := wr_byt start s0 ha
  have c2 := f21_ok (writeH start a) b b1 hb
  obtain ⟨e2, d2, n2, r2⟩ := validW (h := writeH start a) (b := b) n1 r1 (by omega)
  rw [e2, d2] at c2
  have b2 := wr_byt (writeH start a) b1 hb
  have c3 := f21_ok (writeH (writeH start a) b) c b2 hc
  obtain ⟨e3, d3, n3, r3⟩ := validW (h := writeH (writeH start a) b) (b := c) n2 r2 (by omega)
  rw [e3, d3] at c3
  have b3 := wr_byt (writeH (writeH start a) b) b2 hc
  have hall : writeH (writeH (writeH start a) b) c = writeH start (a ++ b ++ c) := by
    rw [write_two (h := start) a b (m := 0) rfl (by omega), write_two (h := start) (a ++ b) c (m := 0) rfl (by simp; omega)]
  have c4 := f23_ok _ b3
  rw [hall] at c3 c4 n3 r3 b3
  have hby : byt (a ++ b ++ c) := byt_append (byt_append ha hb) hc
  have hl : (a ++ b ++ c).length ≤ 3000 := by simp; omega
  obtain ⟨f1, f2⟩ := fin_all (a ++ b ++ c) (by omega)
  rw [f1, f2] at c4
  have c5 := f14_ok (a ++ b ++ c) hby
  rw [show sumD (a ++ b ++ c) = ofB (a ++ b ++ c) from by unfold sumD; rw [if_neg (by omega)], show sumE (a ++ b ++ c) = 0 from by unfold sumE; rw [if_neg (by omega)]] at c5
  have c6 := f21_ok start (a ++ b ++ c) s0 hby
  obtain ⟨e6, d6, n6, r6⟩ := validW (h := start) (b := a ++ b ++ c) (m := 0) rfl rfl (by omega)
  rw [e6, d6] at c6
  have c7 := f25_ok (writeH start (a ++ b ++ c)) (writeH start (a ++ b ++ c)) (by rw [r6]; omega)
  rw [decide_eq_true rfl] at c7
  have eL : bvs (a ++ b ++ c) = .ro ush (List.replicate 0 (PV.i .u8 0) ++ bv a ++ bv b ++ bv c) := by simp
  rw [eL] at c5 c6
  rw [Nat.zero_add] at n6
  generalize writeH (writeH start a) b = g2 at *
  generalize writeH start a = g1 at *
  generalize hg : writeH start (a ++ b ++ c) = g3 at *
  generalize ofB (a ++ b ++ c) = d at *
  have hn : (g3.n == ((List.replicate 0 (PV.i .u8 0) ++ bv a ++ bv b ++ bv c).length : Int)) = true := by rw [n6]; simp
  conv => whnf
  refine ⟨_, f26_ok, ?_⟩
  conv => whnf
  refine ⟨_, c1, ?_⟩
  conv => whnf
  refine ⟨_, c2, ?_⟩
  conv => whnf
  refine ⟨_, c3, ?_⟩
  conv => whnf
  refine ⟨_, c4, ?_⟩
  conv => whnf
  iterate 3 (conv => arg 2; repeat (first | rw [capN _ (by simp; omega)] | (whnf; arg 2))
             conv => whnf)
  refine ⟨_, c5, ?_⟩
  conv => whnf
  refine ⟨_, f26_ok, ?_⟩
  conv => whnf
  refine ⟨_, c6, ?_⟩
  conv => whnf
  iterate 5 (refine iteT rfl ?_
             conv => whnf)
  refine iteT (same_dvT d) ?_
  conv => whnf
  refine iteT rfl ?_
  conv => whnf
  refine ⟨_, c7, ?_⟩
  conv => whnf
  refine iteT rfl ?_
  conv => whnf
  refine iteT hn ?_
  conv => whnf
  refine ⟨_, f28_ok, ?_⟩
  conv => whnf
  refine iteT rfl ?_
  rfl
end Go.Proofs.YtpbildnhhafohaaDoor.AM
