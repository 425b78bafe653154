/- Sha: hashes written to, finished and compared. -/
import Derived.Test.YtipmkjfbdflneaaDoorShaH
namespace Go.Proofs.YtipmkjfbdflneaaDoor.AM
open Go Go.Proofs
set_option maxRecDepth 100000

theorem valid_spec {h : Hs} (hv : validH h = true) : ∃ m : Nat, h.n = m ∧ m ≤ 128000 ∧ h.r.length = m % 64 := by
  unfold validH at hv
  simp only [Bool.and_eq_true, decide_eq_true_eq, beq_iff_eq] at hv
  obtain ⟨h1, h2, h3⟩ := hv
  obtain ⟨m, hm⟩ := Int.eq_ofNat_of_zero_le h1
  rw [hm] at h3
  refine ⟨m, hm, by omega, ?_⟩
  have : (m : Int).tmod 64 = ((m % 64 : Nat) : Int) := rfl
  rw [this] at h3
  omega
def h00 : Hs := ⟨z8, [], 0⟩
def wrE (h : Hs) (b : List Int) : Int := if validH h = true then (if (b.length : Int) > 128000 - h.n then 4 else 0) else 8
def wrD (h : Hs) (b : List Int) : Hs := if wrE h b = 0 then writeH h b else h00
def fiE (h : Hs) : Int := if validH h = true then 0 else 8
def fiD (h : Hs) : List Int := if validH h = true then finishH h h.n.toNat else zd
theorem f100_ok (h : Hs) (b : List Int) (hr : byt h.r) (hb : byt b) : Fn Tryd.prog X.G 100 [hsv h, bvs b] (.tup [hsv (wrD h b), .p (.i .i64 (wrE h b))]) := by
  refine Fn.intro (I := []) hX hm 0 Tryd.func100 rfl rfl (by kernel_rfl) rfl ?_
  have cv := f104_ok h
  cases hv : validH h with
  | false =>
    rw [show wrD h b = h00 from by unfold wrD wrE; rw [hv]; rfl, show wrE h b = 8 from by unfold wrE; rw [hv]; rfl]
    rw [hv] at cv
    conv => whnf
    refine ⟨_, cv, ?_⟩
    conv => whnf
    refine iteF rfl ?_
    conv => whnf
    rfl
  | true =>
    obtain ⟨m, hm1, hm2, hm3⟩ := valid_spec hv
    rw [hv] at cv
    have cw := fun lb => f92_ok h b hr hb (by omega) lb
    have eD : wrD h b = if (b.length : Int) > 128000 - h.n then h00 else writeH h b := by
      unfold wrD wrE
      rw [if_pos hv]
      by_cases hc : (b.length : Int) > 128000 - h.n
      · rw [if_pos hc, if_pos hc]; rfl
      · rw [if_neg hc, if_neg hc]; rfl
    have eE : wrE h b = if (b.length : Int) > 128000 - h.n then 4 else 0 := by unfold wrE; rw [if_pos hv]
    rw [eD, eE]
    obtain ⟨w, r, n⟩ := h
    dsimp only at *
    subst hm1
    have e1 : IntKind.i64.wrap (128000 - (m : Int)) = 128000 - (m : Int) := wr_i64 (by omega) (by omega)
    conv => whnf
    refine ⟨_, cv, ?_⟩
    conv => whnf
    refine iteT rfl ?_
    conv => whnf
    refine iteC (fun h1 => ?_) (fun h1 => ?_)
    · have h1 := of_decide_eq_true h1
      rw [e1, List.length_map] at h1
      rw [if_pos h1, if_pos h1]
      rfl
    · have h1 := of_decide_eq_false h1
      rw [e1, List.length_map] at h1
      rw [if_neg h1, if_neg h1]
      have cw := cw (by omega)
      generalize writeH ⟨w, r, m⟩ b = g at *
      conv => whnf
      refine ⟨_, cw, ?_⟩
      conv => whnf
      rfl
theorem f101_ok (h : Hs) (hr : byt h.r) : Fn Tryd.prog X.G 101 [hsv h] (.tup [.p (dv (fiD h)), .p (.i .i64 (fiE h))]) := by
  refine Fn.intro (I := []) hX hm 0 Tryd.func101 rfl rfl (by kernel_rfl) rfl ?_
  have cv := f104_ok h
  cases hv : validH h with
  | false =>
    rw [show fiD h = zd from by unfold fiD; rw [hv]; rfl, show fiE h = 8 from by unfold fiE; rw [hv]; rfl]
    rw [hv] at cv
    conv => whnf
    refine ⟨_, cv, ?_⟩
    conv => whnf
    refine iteF rfl ?_
    conv => whnf
    rfl
  | true =>
    obtain ⟨m, hm1, hm2, hm3⟩ := valid_spec hv
    rw [show fiD h = finishH h h.n.toNat from by unfold fiD; rw [hv]; rfl, show fiE h = 0 from by unfold fiE; rw [hv]; rfl]
    rw [hv] at cv
    have cf := f91_ok h h.n.toNat (by omega) (by omega) hr (by omega)
    generalize finishH h h.n.toNat = d at *
    conv => whnf
    refine ⟨_, cv, ?_⟩
    conv => whnf
    refine iteT rfl ?_
    conv => whnf
    refine ⟨_, cf, ?_⟩
    rfl
instance : DecidableEq Hs := fun x y =>
  if h : x.w = y.w ∧ x.r = y.r ∧ x.n = y.n then isTrue (by cases x; cases y; simp_all) else isFalse (by rintro rfl; exact h ⟨rfl, rfl, rfl⟩)
theorem same_hw (u v : V8) : PV.same (hw u) (hw v) = decide (u = v) := by
  obtain ⟨a1, a2, a3, a4, a5, a6, a7, a8⟩ := u
  obtain ⟨b1, b2, b3, b4, b5, b6, b7, b8⟩ := v
  simp only [PV.same, PV.sameL, Bool.and_true]
  rw [Bool.eq_iff_iff]
  simp
end Go.Proofs.YtipmkjfbdflneaaDoor.AM
