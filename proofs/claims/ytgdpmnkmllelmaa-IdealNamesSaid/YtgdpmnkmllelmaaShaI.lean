/- Sha: hashes written to, finished and compared. -/
import Derived.Test.YtgdpmnkmllelmaaShaH
namespace Go.Proofs.Ytgdpmnkmllelmaa.AM
open Go Go.Proofs
set_option maxRecDepth 100000

theorem valid_spec {h : Hs} (hv : validH h = true) : ∃ m : Nat, h.n = m ∧ m ≤ 128000 ∧ h.r.length = m % 64 := by
  unfold validH at hv
  simp only [Bool.and_eq_true, decide_eq_true_eq, beq_iff_eq] at hv
  obtain ⟨h1, h2, h3⟩ := hv
  obtain ⟨m, hm⟩ := Int.eq_ofNat_of_zero_le h1
  rw [hm] at h3
  refine ⟨m, hm, by omega, ?_⟩
  have : (m : Int).tmod 64 = ((m % 64 : Nat) : Int) := rfl
  rw [this] at h3
  omega
def h00 : Hs := ⟨z8, [], 0⟩
def wrE (h : Hs) (b : List Int) : Int := if validH h = true then (if (b.length : Int) > 128000 - h.n then 4 else 0) else 8
def wrD (h : Hs) (b : List Int) : Hs := if wrE h b = 0 then writeH h b else h00
def fiE (h : Hs) : Int := if validH h = true then 0 else 8
def fiD (h : Hs) : List Int := if validH h = true then finishH h h.n.toNat else zd
instance : DecidableEq Hs := fun x y =>
  if h : x.w = y.w ∧ x.r = y.r ∧ x.n = y.n then isTrue (by cases x; cases y; simp_all) else isFalse (by rintro rfl; exact h ⟨rfl, rfl, rfl⟩)
theorem same_hw (u v : V8) : PV.same (hw u) (hw v) = decide (u = v) := by
  obtain ⟨a1, a2, a3, a4, a5, a6, a7, a8⟩ := u
  obtain ⟨b1, b2, b3, b4, b5, b6, b7, b8⟩ := v
  simp only [PV.same, PV.sameL, Bool.and_true]
  rw [Bool.eq_iff_iff]
  simp
end Go.Proofs.Ytgdpmnkmllelmaa.AM
