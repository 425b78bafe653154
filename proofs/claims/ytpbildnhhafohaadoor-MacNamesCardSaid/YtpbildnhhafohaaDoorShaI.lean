/- Sha: hashes written to, finished and compared. -/
import Derived.Test.YtpbildnhhafohaaDoorShaH
namespace Go.Proofs.YtpbildnhhafohaaDoor.AM
open Go Go.Proofs
set_option maxRecDepth 100000

theorem valid_spec {h : Hs} (hv : validH h = true) : ∃ m : Nat, h.n = m ∧ m ≤ 128000 ∧ h.r.length = m % 64 := by
  unfold validH at hv
  simp only [Bool.and_eq_true, decide_eq_true_eq, beq_iff_eq] at hv
  obtain ⟨h1, h2, h3⟩ := hv
  obtain ⟨m, hm⟩ := Int.eq_ofNat_of_zero_le h1
  rw [hm] at h3
  refine ⟨m, hm, by omega, ?_⟩
  have : (m : Int).tmod 64 = ((m % 64 : Nat) : Int) := rfl
  rw [this] at h3
  omega
def h00 : Hs := ⟨z8, [], 0⟩
def wrE (h : Hs) (b : List Int) : Int := if validH h = true then (if (b.length : Int) > 128000 - h.n then 4 else 0) else 8
def wrD (h : Hs) (b : List Int) : Hs := if wrE h b = 0 then writeH h b else h00
def fiE (h : Hs) : Int := if validH h = true then 0 else 8
def fiD (h : Hs) : List Int := if validH h = true then finishH h h.n.toNat else zd
theorem f21_ok (h : Hs) (b : List Int) (hr : byt h.r) (hb : byt b) : Fn Tryd.prog X.G 21 [hsv h, bvs b] (.tup [hsv (wrD h b), .p (.i .i64 (wrE h b))]) := by
  refine Fn.intro (I := []) hX hm 0 Tryd.func21 rfl rfl (by kernel_rfl) rfl ?_
  have cv := f50_ok h
  cases hv : validH h with
  | false =>
    rw [show wrD h b = h00 from by unfold wrD wrE; rw [hv]; rfl, show wrE h b = 8 from by unfold wrE; rw [hv]; rfl]
    rw [hv] at cv
    conv => whnf
    refine ⟨_, cv, ?_⟩
    conv => whnf
    refine iteF rfl ?_
    conv => whnf
    rfl
  | true =>
    obtain ⟨m, hm1, hm2, hm3⟩ := valid_spec hv
    rw [hv] at cv
    have cw := fun lb => f44_ok h b hr hb (by omega) lb
    have eD : wrD h b = if (b.length : Int) > 128000 - h.n then h00 else writeH h b := by
      unfold wrD wrE
      rw [if_pos hv]
      by_cases hc : (b.length : Int) > 128000 - h.n
      · rw [if_pos hc, if_pos hc]; rfl
      · rw [if_neg hc, if_neg hc]; rfl
    have eE : wrE h b = if (b.length : Int) > 128000 - h.n then 4 else 0 := by unfold wrE; rw [if_pos hv]
    rw [eD, eE]
    obtain ⟨w, r, n⟩ := h
    dsimp only at *
    subst hm1
    have e1 : IntKind.i64.wrap (128000 - (m : Int)) = 128000 - (m : Int) := wr_i64 (by omega) (by omega)
    conv => whnf
    refine ⟨_, cv, ?_⟩
    conv => whnf
    refine iteT rfl ?_
    conv => whnf
    refine iteC (fun h1 => ?_) (fun h1 => ?_)
    · have h1 := of_decide_eq_true h1
      rw [e1, List.length_map] at h1
      rw [if_pos h1, if_pos h1]
      rfl
    · have h1 := of_decide_eq_false h1
      rw [e1, List.length_map] at h1
      rw [if_neg h1, if_neg h1]
      have cw := cw (by omega)
      generalize writeH ⟨w, r, m⟩ b = g at *
      conv => whnf
      refine ⟨_, cw, ?_⟩
      conv => whnf
      rfl
theorem f23_ok (h : Hs) (hr : byt h.r) : Fn Tryd.prog X.G 23 [hsv h] (.tup [.p (dv (fiD h)), .p (.i .i64 (fiE h))]) := by
  refine Fn.intro (I := []) hX hm 0 Tryd.func23 rfl rfl (by kernel_rfl) rfl ?_
  have cv := f50_ok h
  cases hv : validH h with
  | false =>
    rw [show fiD h = zd from by unfold fiD; rw [hv]; rfl, show fiE h = 8 from by unfold fiE; rw [hv]; rfl]
    rw [hv] at cv
    conv => whnf
    refine ⟨_, cv, ?_⟩
    conv => whnf
    refine iteF rfl ?_
    conv => whnf
    rfl
  | true =>
    obtain ⟨m, hm1, hm2, hm3⟩ := valid_spec hv
    rw [show fiD h = finishH h h.n.toNat from by unfold fiD; rw [hv]; rfl, show fiE h = 0 from by unfold fiE; rw [hv]; rfl]
    rw [hv] at cv
    have cf := f43_ok h h.n.toNat (by omega) (by omega) hr (by omega)
    generalize finishH h h.n.toNat = d at *
    conv => whnf
    refine ⟨_, cv, ?_⟩
    conv => whnf
    refine iteT rfl ?_
    conv => whnf
    refine ⟨_, cf, ?_⟩
    rfl
set_option maxHeartbeats 1000000 in
theorem f24_ok (h : Hs) (hr : byt h.r) : Fn Tryd.prog X.G 24 [hsv h] (.tup [.p (dv (fiD h)), .p (.i .i64 (fiE h))]) := by
  refine Fn.intro (I := []) hX hm 0 Tryd.func24 rfl rfl (by kernel_rfl) rfl ?_
  have cv := f51_ok h
  cases hv : validH h with
  | false =>
    rw [show fiD h = zd from by unfold fiD; rw [hv]; rfl, show fiE h = 8 from by unfold fiE; rw [hv]; rfl]
    rw [hv] at cv
    conv => whnf
    refine ⟨_, cv, ?_⟩
    conv => whnf
    refine iteF rfl ?_
    conv => whnf
    rfl
  | true =>
    obtain ⟨m, hm1, hm2, hm3⟩ := valid_spec hv
    rw [show fiD h = finishH h h.n.toNat from by unfold fiD; rw [hv]; rfl, show fiE h = 0 from by unfold fiE; rw [hv]; rfl]
    rw [hv] at cv
    obtain ⟨w, r, n⟩ := h
    dsimp only at *
    subst hm1
    rw [Int.toNat_natCast]
    unfold finishH
    dsimp only
    have hz := zeros_lt m
    have hp := padL_length m
    have cp := f47_ok m (by omega)
    have ca := f52_ok w (r ++ padL m) (byt_append hr (padL_byt _)) (by simp; omega)
    have cd := f53_ok (afterV w (r ++ padL m))
    rw [show bvs (r ++ padL m) = .ro ush (bv r ++ bv (padL m)) from by rw [← bv_app]] at ca
    generalize afterV w (r ++ padL m) = g at *
    generalize padL m = pl at *
    conv => whnf
    refine ⟨_, cv, ?_⟩
    conv => whnf
    refine iteT rfl ?_
    conv => whnf
    conv => arg 2; repeat (first | rw [capN _ (by simp; omega)] | (whnf; arg 2))
    conv => whnf
    refine ⟨_, cp, ?_⟩
    conv => whnf
    conv => arg 2; repeat (first | rw [capN _ (by simp; omega)] | (whnf; arg 2))
    conv => whnf
    refine ⟨_, ca, ?_⟩
    conv => whnf
    refine ⟨_, cd, ?_⟩
    rfl
instance : DecidableEq Hs := fun x y =>
  if h : x.w = y.w ∧ x.r = y.r ∧ x.n = y.n then isTrue (by cases x; cases y; simp_all) else isFalse (by rintro rfl; exact h ⟨rfl, rfl, rfl⟩)
theorem same_hw (u v : V8) : PV.same (hw u) (hw v) = decide (u = v) := by
  obtain ⟨a1, a2, a3, a4, a5, a6, a7, a8⟩ := u
  obtain ⟨b1, b2, b3, b4, b5, b6, b7, b8⟩ := v
  simp only [PV.same, PV.sameL, Bool.and_true]
  rw [Bool.eq_iff_iff]
  simp
theorem f25_ok (a b : Hs) (hl : a.r.length < 9223372036854775807) : Fn Tryd.prog X.G 25 [hsv a, hsv b] (.p (.b (decide (a = b)))) := by
  refine Fn.intro (I := []) hX hm 0 Tryd.func25 rfl rfl (by kernel_rfl) rfl ?_
  have hs := same_hw a.w b.w
  obtain ⟨aw, ar, an⟩ := a
  obtain ⟨bw, br, bn⟩ := b
  dsimp only at *
  conv => whnf
  refine iteC (fun h => ?_) (fun h => ?_)
  · have h : (!PV.same (hw aw) (hw bw)) = true := h
    rw [hs] at h
    have h : aw ≠ bw := by simpa using h
    rw [decide_eq_false (by simp [h])]
    rfl
  have h : (!PV.same (hw aw) (hw bw)) = false := h
  rw [hs] at h
  have h : aw = bw := by simpa using h
  subst h
  conv => whnf
  refine iteC (fun h => ?_) (fun h => ?_)
  · have h : an ≠ bn := by simpa using h
    rw [decide_eq_false (by simp [h])]
    rfl
  have h : an = bn := by simpa using h
  subst h
  conv => whnf
  refine iteC (fun h => ?_) (fun h => ?_)
  · have h : ar ≠ br := by rintro rfl; simp at h
    rw [decide_eq_false (by simp [h])]
    rfl
  have h : ar.length = br.length := Int.ofNat.inj (by simpa using h)
  conv => whnf
  refine LoopJ.intro (I := []) (base' := 0) hX hm (by kernel_rfl) (σ := Nat) (fun i => [(2, .ptr 16 []), (3, .ptr 24 []), (5, .p (.i .i64 i))]) (fun _ => [(16, .var (hsv ⟨aw, ar, an⟩)), (24, .var (hsv ⟨aw, br, an⟩))]) (fun i => i ≤ ar.length ∧ ∀ j (h1 : j < ar.length) (h2 : j < br.length), j < i → ar[j] = br[j]) (fun i => ar.length - i) 0 []
    ⟨Nat.zero_le _, by intro j _ _ h; omega⟩ ⟨nofun, rfl, ⟨rfl, rfl, rfl, rfl, rfl, rfl, trivial⟩, ⟨rfl, rfl, rfl, rfl, trivial⟩⟩ ?_
  intro i hi
  conv => whnf
  refine iteC (fun h1 => ?_) (fun h1 => ?_)
  · have h1 := of_decide_eq_true h1
    have h1 : (i : Int) < ((bv ar).length : Int) := h1
    rw [List.length_map] at h1
    have hlt : i < ar.length := by omega
    have hlt2 : i < br.length := by omega
    have ga := getM (f := PV.i .u8) hlt
    have gb := getM (f := PV.i .u8) hlt2
    conv => whnf
    conv => arg 2; repeat (first | rw [ga] | (whnf; arg 2))
    conv => whnf
    conv => arg 2; repeat (first | rw [gb] | (whnf; arg 2))
    conv => whnf
    refine iteC (fun h2 => ?_) (fun h2 => ?_)
    · have h2 : ar[i] ≠ br[i] := by simpa using h2
      have h3 : ar ≠ br := by rintro rfl; exact h2 rfl
      rw [decide_eq_false (by simp [h3])]
      rfl
    · have h2 : ar[i] = br[i] := by simpa using h2
      conv => whnf
      refine ⟨i + 1, [], ⟨by omega, fun j g1 g2 hj => ?_⟩, by dsimp only; omega, nofun, rfl, ⟨rfl, rfl, rfl, rfl, incN (by omega), rfl, trivial⟩, ⟨rfl, rfl, rfl, rfl, trivial⟩⟩
      by_cases hji : j = i
      · subst hji; exact h2
      · exact hi.2 j g1 g2 (by omega)
  · have h1 := of_decide_eq_false h1
    have h1 : ¬ (i : Int) < ((bv ar).length : Int) := h1
    rw [List.length_map] at h1
    have h3 : ar = br := List.ext_getElem h fun j g1 g2 => hi.2 j g1 g2 (by omega)
    conv => whnf
    rw [decide_eq_true (by rw [h3])]
    rfl
end Go.Proofs.YtpbildnhhafohaaDoor.AM
