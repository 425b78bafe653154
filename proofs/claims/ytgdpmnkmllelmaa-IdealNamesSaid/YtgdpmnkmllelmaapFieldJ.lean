/- Ported by name: FieldJ. -/
import Derived.Test.YtgdpmnkmllelmaapFieldI
namespace Go.Proofs.Ytgdpmnkmllelmaa.AM
open Go Go.Proofs
set_option maxRecDepth 100000
theorem byte_at {m w i : Nat} (hw : w ≤ 8) (hi : i < w) : (bytesU (m : Int) w)[i]'(by rw [bytesU_length]; exact hi) = ((m / 256 ^ (w - 1 - i) % 256 : Nat) : Int) := by
  rw [bytesU_get _ hi]
  have := byteU_nat m (w - 1 - i) (by omega)
  rw [← this]
theorem quot_step {m w i : Nat} (hi : i < w) : m / 256 ^ (w - 1 - i) = 256 * (m / 256 ^ (w - i)) + m / 256 ^ (w - 1 - i) % 256 := by
  have e : 256 ^ (w - i) = 256 ^ (w - 1 - i) * 256 := by
    rw [← Nat.pow_succ]
    congr 1
    omega
  rw [e, ← Nat.div_div_eq_div_mul]
  omega
theorem quot_eq {m n w : Nat} (hw : w ≤ 8) (hm : m < 256 ^ w) (hn : n < 256 ^ w) :
    ∀ (i : Nat), i ≤ w → (∀ j (h : j < w), j < i → (bytesU (m : Int) w)[j]'(by rw [bytesU_length]; exact h) = (bytesU (n : Int) w)[j]'(by rw [bytesU_length]; exact h)) → m / 256 ^ (w - i) = n / 256 ^ (w - i) := by
  intro i
  induction i with
  | zero => intro _ _; rw [Nat.sub_zero, Nat.div_eq_of_lt hm, Nat.div_eq_of_lt hn]
  | succ i ih =>
    intro hi h
    have e := ih (by omega) fun j hj hji => h j hj (by omega)
    have hb := h i (by omega) (by omega)
    rw [byte_at hw (by omega), byte_at hw (by omega)] at hb
    have hb := Int.ofNat.inj hb
    have h1 := quot_step (m := m) (w := w) (i := i) (by omega)
    have h2 := quot_step (m := n) (w := w) (i := i) (by omega)
    rw [show w - (i + 1) = w - 1 - i by omega]
    omega
theorem bytes_cmp {m n w : Nat} (hw : w ≤ 8) (hm : m < 256 ^ w) (hn : n < 256 ^ w) (i : Nat) (hi : i < w)
    (h : ∀ j (h : j < w), j < i → (bytesU (m : Int) w)[j]'(by rw [bytesU_length]; exact h) = (bytesU (n : Int) w)[j]'(by rw [bytesU_length]; exact h))
    (hne : (bytesU (m : Int) w)[i]'(by rw [bytesU_length]; exact hi) ≠ (bytesU (n : Int) w)[i]'(by rw [bytesU_length]; exact hi)) :
    ((bytesU (m : Int) w)[i]'(by rw [bytesU_length]; exact hi) < (bytesU (n : Int) w)[i]'(by rw [bytesU_length]; exact hi) ↔ m < n) ∧ m ≠ n := by
  have e := quot_eq hw hm hn i (by omega) h
  rw [byte_at hw hi, byte_at hw hi] at *
  have h1 := quot_step (m := m) hi
  have h2 := quot_step (m := n) hi
  have h3 : m < n ↔ m / 256 ^ (w - 1 - i) < n / 256 ^ (w - 1 - i) ∨ (m / 256 ^ (w - 1 - i) = n / 256 ^ (w - 1 - i) ∧ m < n) := by
    constructor
    · intro hlt
      have := Nat.div_le_div_right (c := 256 ^ (w - 1 - i)) (Nat.le_of_lt hlt)
      omega
    · rintro (hlt | ⟨_, hlt⟩)
      · apply Classical.byContradiction
        intro hnl
        have := Nat.div_le_div_right (c := 256 ^ (w - 1 - i)) (Nat.le_of_not_lt hnl)
        omega
      · exact hlt
  have hne' : m / 256 ^ (w - 1 - i) % 256 ≠ n / 256 ^ (w - 1 - i) % 256 := fun hh => hne (by rw [hh])
  have hmn : m ≠ n := fun hh => by rw [hh] at hne'; exact hne' rfl
  refine ⟨?_, hmn⟩
  rw [h3]
  omega
theorem num_lt {k n : Int} (h0 : 0 ≤ n) (h : chkF (numF k n) = 0) (h6 : k ≠ 6) : n.toNat < 256 ^ (widK k).toNat := by
  unfold chkF at h
  have hb : ¬ badF (numF k n) = true := fun hb => by rw [if_pos hb] at h; cases h
  have hb : badF (numF k n) = false := by simpa using hb
  simp only [badF, Bool.or_eq_false_iff, decide_eq_false_iff_not] at hb
  obtain ⟨h1, h2, _⟩ := hb
  unfold mostK at h2
  unfold widK at h1 ⊢
  repeat' split at h1
  all_goals simp_all
  all_goals omega
/-- What the law needs of the bytes of two numbers. -/
theorem order_facts {k x y : Int} (hx : 0 ≤ x) (hy : 0 ≤ y) (hcx : chkF (numF k x) = 0) (hcy : chkF (numF k y) = 0) :
    ∃ a b : List Int, oneF (numF k x) = a ∧ oneF (numF k y) = b ∧ ((a.length : Nat) : Int) = widK k ∧ ((b.length : Nat) : Int) = widK k ∧
    (∀ i (h1 : i < a.length) (h2 : i < b.length), (∀ j (h1 : j < a.length) (h2 : j < b.length), j < i → a[j] = b[j]) → a[i] ≠ b[i] → (decide (a[i] < b[i]) == decide (x < y)) = true ∧ (x != y) = true) ∧
    ((∀ j (h1 : j < a.length) (h2 : j < b.length), a[j] = b[j]) → x = y) := by
  by_cases h6 : k = 6
  · subst h6
    have e : ∀ z, oneF (numF 6 z) = zd := fun z => rfl
    have e0 : ∀ z, 0 ≤ z → chkF (numF 6 z) = 0 → z = 0 := fun z hz h => by
      unfold chkF at h
      have hb : ¬ badF (numF 6 z) = true := fun hb => by rw [if_pos hb] at h; cases h
      simp [badF, mostK, widK] at hb
      omega
    refine ⟨zd, zd, e x, e y, rfl, rfl, fun i h1 h2 _ hne => absurd rfl hne, fun _ => ?_⟩
    rw [e0 x hx hcx, e0 y hy hcy]
  · have l1 := num_lt hx hcx h6
    have l2 := num_lt hy hcy h6
    have hw := widK_le8 h6
    obtain ⟨m, rfl⟩ := Int.eq_ofNat_of_zero_le hx
    obtain ⟨n, rfl⟩ := Int.eq_ofNat_of_zero_le hy
    have e : ∀ z : Nat, oneF (numF k (z : Int)) = bytesU (z : Int) (widK k).toNat := fun z => by unfold oneF; rw [if_neg h6]
    have hwn := widK_nat k
    rw [show ((m : Nat) : Int).toNat = m from rfl] at l1
    rw [show ((n : Nat) : Int).toNat = n from rfl] at l2
    generalize (widK k).toNat = w at *
    refine ⟨bytesU (m : Int) w, bytesU (n : Int) w, e m, e n, by rw [bytesU_length, hwn], by rw [bytesU_length, hwn], ?_, ?_⟩
    · intro i h1 h2 hall hne
      rw [bytesU_length] at h1
      obtain ⟨g1, g2⟩ := bytes_cmp hw l1 l2 i h1 (fun j hj hji => hall j (by rw [bytesU_length]; exact hj) (by rw [bytesU_length]; exact hj) hji) hne
      constructor
      · simp only [beq_iff_eq, decide_eq_decide, g1]
        omega
      · simp only [bne_iff_ne]
        omega
    · intro hall
      have := quot_eq hw l1 l2 w (Nat.le_refl _) fun j hj _ => hall j (by rw [bytesU_length]; exact hj) (by rw [bytesU_length]; exact hj)
      simp at this
      rw [this]
theorem row_one {f : Fd} (h : chkF f = 0) : rowE [f] = 0 ∧ rowL [f] = oneF f := by
  have hb : badF f = false := by
    unfold chkF at h
    by_cases hb : badF f = true
    · rw [if_pos hb] at h; cases h
    · simpa using hb
  have e : rowE [f] = 0 := by simp [rowE, hb]
  refine ⟨e, ?_⟩
  unfold rowL
  rw [e, if_neg (by simp)]
  simp [flatF]
end Go.Proofs.Ytgdpmnkmllelmaa.AM
