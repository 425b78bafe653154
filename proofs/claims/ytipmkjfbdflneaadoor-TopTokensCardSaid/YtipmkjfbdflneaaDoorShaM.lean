/- ShaParts: the walk of the law. -/
import Derived.Test.YtipmkjfbdflneaaDoorShaL
namespace Go.Proofs.YtipmkjfbdflneaaDoor.AM
open Go Go.Proofs
set_option maxRecDepth 100000

theorem validW {h : Hs} {b : List Int} {m : Nat} (hn : h.n = m) (hr : h.r.length = m % 64) (hb : m + b.length ≤ 128000) : wrE h b = 0 ∧ wrD h b = writeH h b ∧ (writeH h b).n = ((m + b.length : Nat) : Int) ∧ (writeH h b).r.length = (m + b.length) % 64 := by
  have hv : validH h = true := by
    unfold validH
    rw [hn, hr, decide_eq_true (by omega), decide_eq_true (by omega)]
    show (((m % 64 : Nat) : Int) == (m : Int).tmod 64) = true
    rw [show (m : Int).tmod 64 = ((m % 64 : Nat) : Int) from rfl]
    simp
  have hE : wrE h b = 0 := by
    unfold wrE
    rw [if_pos hv, if_neg (by omega)]
  refine ⟨hE, by unfold wrD; rw [if_pos hE], ?_, ?_⟩
  · show IntKind.i64.wrap (h.n + b.length) = _
    rw [hn, wr_i64 (by omega) (by omega)]
    omega
  · simp [writeH]
    omega
theorem write_two (h : Hs) (a b : List Int) {m : Nat} (hn : h.n = m) (hb : m + (a.length + b.length) ≤ 128000) : writeH (writeH h a) b = writeH h (a ++ b) := by
  have e1 : IntKind.i64.wrap (h.n + a.length) = ((m + a.length : Nat) : Int) := by rw [hn, wr_i64 (by omega) (by omega)]; omega
  unfold writeH
  dsimp only
  rw [after_append, e1]
  have hl : (List.drop (64 * ((h.r ++ a).length / 64)) (h.r ++ a) ++ b).length / 64 + (h.r ++ a).length / 64 = (h.r ++ (a ++ b)).length / 64 := by simp; omega
  have e2 : List.drop (64 * ((List.drop (64 * ((h.r ++ a).length / 64)) (h.r ++ a) ++ b).length / 64)) (List.drop (64 * ((h.r ++ a).length / 64)) (h.r ++ a) ++ b) = List.drop (64 * ((h.r ++ (a ++ b)).length / 64)) (h.r ++ (a ++ b)) := by
    rw [← hl, ← List.drop_append_of_le_length (by omega), List.drop_drop, ← List.append_assoc]
    congr 1
    omega
  rw [e2, List.append_assoc, hn]
  congr 1
  rw [wr_i64 (by omega) (by omega), wr_i64 (by simp; omega) (by simp; omega)]
  simp
  omega
def start : Hs := ⟨first, [], 0⟩
theorem fin_all (al : List Int) (h : al.length ≤ 128000) : fiE (writeH start al) = 0 ∧ fiD (writeH start al) = ofB al := by
  obtain ⟨h1, h2, h3, h4⟩ := validW (h := start) (b := al) (m := 0) rfl rfl (by omega)
  have hv : validH (writeH start al) = true := by
    unfold validH
    rw [h3, h4, decide_eq_true (by omega), decide_eq_true (by omega), show (((0 + al.length : Nat) : Int)).tmod 64 = (((0 + al.length) % 64 : Nat) : Int) from rfl]
    simp
  refine ⟨by unfold fiE; rw [if_pos hv], ?_⟩
  unfold fiD
  rw [if_pos hv, h3, Int.toNat_natCast, Nat.zero_add]
  exact finish_of al
end Go.Proofs.YtipmkjfbdflneaaDoor.AM
