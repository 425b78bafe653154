/- Ported by name: FieldK. -/
import Derived.Test.YtgdpmnkmllelmaapFieldJ
namespace Go.Proofs.Ytgdpmnkmllelmaa.AM
open Go Go.Proofs
set_option maxRecDepth 100000
theorem good_of {f : Fd} (h : badF f = false) : widK f.k ≠ 0 ∧ f.n ≤ mostK f.k ∧ (f.k ≠ 6 → f.d = zd) := by
  simp only [badF, Bool.or_eq_false_iff, Bool.and_eq_false_iff, decide_eq_false_iff_not] at h
  obtain ⟨h1, h2, h3⟩ := h
  refine ⟨h1, by omega, fun hk => ?_⟩
  rcases h3 with h3 | h3
  · exact absurd hk h3
  · exact Classical.not_not.1 h3
theorem oneF_wid {f : Fd} (hf : f.ok) : (oneF f).length = (widK f.k).toNat := by
  unfold oneF
  split
  · rename_i h
    rw [h, hf.d.1]
    rfl
  · rw [bytesU_length]
theorem rdF_one {f : Fd} (hf : f.ok) (h : badF f = false) (r : List Int) : rdF f.k (oneF f ++ r) = f := by
  obtain ⟨h1, h2, h3⟩ := good_of h
  have hl := oneF_wid hf
  obtain ⟨k, n, d⟩ := f
  dsimp only at *
  unfold rdF
  by_cases hk : k = 6
  · subst hk
    rw [if_pos rfl]
    have hd := hf.d.1
    have hn : n = 0 := by
      have := hf.n.1
      simp [mostK] at h2
      dsimp only at this
      omega
    subst hn
    have e : oneF ⟨6, 0, d⟩ = d := rfl
    rw [e, List.take_left' (by exact hd)]
  · rw [if_neg hk, ← hl, List.take_left]
    have hd := h3 hk
    subst hd
    have e : oneF ⟨k, n, zd⟩ = bytesU n (widK k).toNat := by unfold oneF; rw [if_neg hk]
    rw [e]
    have hc : chkF (numF k n) = 0 := by unfold chkF; rw [if_neg (by rw [show badF (numF k n) = false from h]; simp)]
    have hlt := num_lt hf.n.1 hc hk
    have hnn := hf.n.1
    obtain ⟨m, rfl⟩ := Int.eq_ofNat_of_zero_le hnn
    have := numB_bytesU m (widK k).toNat (widK_le8 hk)
    rw [show ((m : Nat) : Int).toNat = m from rfl] at hlt
    rw [Nat.mod_eq_of_lt hlt] at this
    exact congrArg (fun x => (⟨k, x, zd⟩ : Fd)) this
theorem goF_write : ∀ (l : List Fd), (∀ f ∈ l, f.ok ∧ badF f = false) → ∀ (r : List Int) (acc : List Fd), goF (kindsL l) (flatF l ++ r) acc = (acc ++ l, r, 0)
  | [], _, r, acc => by simp [goF, kindsL, flatF]
  | f :: l, h, r, acc => by
    obtain ⟨hf, hb⟩ := h f (by simp)
    have hl := oneF_wid hf
    have e : flatF (f :: l) ++ r = oneF f ++ (flatF l ++ r) := by simp [flatF]
    have ek : kindsL (f :: l) = f.k :: kindsL l := rfl
    rw [e, ek]
    unfold goF
    rw [if_neg (by simp; omega), rdF_one hf hb, if_neg (by simp [hb]), ← hl, List.drop_left, goF_write l (fun g hg => h g (by simp [hg]))]
    simp
theorem row_good {l : List Fd} (h : rowE l = 0) : l.length ≤ 40 ∧ ∀ f ∈ l, badF f = false := by
  refine ⟨rowE_len h, fun f hf => ?_⟩
  unfold rowE at h
  split at h
  · cases h
  · split at h
    · cases h
    · rename_i h2
      cases hb : badF f with
      | false => rfl
      | true => exact absurd (List.any_eq_true.2 ⟨f, hf, hb⟩) h2
theorem row_of {l : List Fd} (h1 : l.length ≤ 40) (h2 : ∀ f ∈ l, badF f = false) : rowE l = 0 := by
  unfold rowE
  rw [if_neg (by omega), if_neg]
  rw [List.any_eq_true]
  rintro ⟨f, hf, hb⟩
  rw [h2 f hf] at hb
  cases hb
theorem kinds_any {l : List Fd} (h2 : ∀ f ∈ l, badF f = false) : ¬ (kindsL l).any (fun k => widK k == 0) = true := by
  rw [List.any_eq_true]
  rintro ⟨k, hk, hb⟩
  obtain ⟨f, hf, rfl⟩ := List.mem_map.1 hk
  exact (good_of (h2 f hf)).1 (by simpa using hb)
theorem frst_write {l : List Fd} (hl : ∀ f ∈ l, f.ok) (h : rowE l = 0) (r : List Int) : frstL (kindsL l) (flatF l ++ r) = (l, r, 0) := by
  obtain ⟨h1, h2⟩ := row_good h
  unfold frstL
  rw [if_neg (by simp [kindsL]; omega), if_neg (kinds_any h2), goF_write l (fun f hf => ⟨hl f hf, h2 f hf⟩)]
  simp
theorem read_write {l : List Fd} (hl : ∀ f ∈ l, f.ok) (h : rowE l = 0) : readL (kindsL l) (flatF l) = (l, 0) := by
  have := frst_write hl h []
  rw [List.append_nil] at this
  unfold readL
  rw [this, if_neg (by simp), if_neg (by simp)]
theorem read_more {l : List Fd} (hl : ∀ f ∈ l, f.ok) (h : rowE l = 0) : readL (kindsL l) (flatF l ++ [0]) = ([], 12) := by
  have := frst_write hl h [0]
  unfold readL
  rw [this, if_neg (by simp), if_pos (by simp)]
theorem goF_short : ∀ (l : List Fd), (∀ f ∈ l, f.ok) → ∀ (b : List Int) (acc : List Fd), b.length < (flatF l).length → goF (kindsL l) b acc = ([], [], 12)
  | [], _, b, acc, h => by simp [flatF] at h
  | f :: l, hl, b, acc, h => by
    have e : flatF (f :: l) = oneF f ++ flatF l := by simp [flatF]
    have ek : kindsL (f :: l) = f.k :: kindsL l := rfl
    have hw := oneF_wid (hl f (by simp))
    rw [e, List.length_append] at h
    rw [ek]
    unfold goF
    split
    · rfl
    · split
      · rfl
      · exact goF_short l (fun g hg => hl g (by simp [hg])) _ _ (by rw [List.length_drop]; omega)
theorem read_short {l : List Fd} (hl : ∀ f ∈ l, f.ok) (h : rowE l = 0) {b : List Int} (hb : b.length < (flatF l).length) : readL (kindsL l) b = ([], 12) := by
  obtain ⟨h1, h2⟩ := row_good h
  have e : frstL (kindsL l) b = ([], [], 12) := by
    unfold frstL
    rw [if_neg (by simp [kindsL]; omega), if_neg (kinds_any h2), goF_short l hl b [] hb]
  unfold readL
  rw [e]
  rfl
theorem bytesU_snoc {m x w : Nat} (hx : x < 256) (hw : w + 1 ≤ 8) : bytesU ((256 * m + x : Nat) : Int) (w + 1) = bytesU (m : Int) w ++ [(x : Int)] := by
  apply List.ext_getElem
  · simp [bytesU_length]
  · intro i h1 h2
    rw [bytesU_length] at h1
    rw [byte_at hw h1]
    by_cases hi : i < w
    · rw [List.getElem_append_left (by rw [bytesU_length]; exact hi), byte_at (by omega) hi]
      rw [show w + 1 - 1 - i = (w - 1 - i) + 1 by omega, Nat.pow_succ, Nat.mul_comm _ 256, ← Nat.div_div_eq_div_mul]
      rw [show (256 * m + x) / 256 = m by omega]
    · have : i = w := by omega
      subst this
      rw [List.getElem_append_right (by rw [bytesU_length]; omega)]
      simp [bytesU_length]
      omega
theorem numB_snoc (b : List Int) (x : Int) : numB (b ++ [x]) = IntKind.u64.wrap (IntKind.u64.wrap (256 * numB b) + IntKind.u64.wrap x) := by
  unfold numB
  rw [List.foldl_append]
  rfl
theorem bytesU_numB : ∀ (w : Nat) (b : List Int), b.length = w → w ≤ 8 → byt b → bytesU (numB b) w = b ∧ numB b < 256 ^ w
  | 0, b, hl, _, _ => by
    have : b = [] := List.length_eq_zero_iff.1 hl
    subst this
    exact ⟨rfl, by simp [numB]⟩
  | w + 1, b, hl, hw, hb => by
    rcases List.eq_nil_or_concat b with rfl | ⟨c, x, rfl⟩
    · simp at hl
    · rw [List.concat_eq_append] at *
      have hcl : c.length = w := by simpa using hl
      obtain ⟨h1, h2⟩ := bytesU_numB w c hcl (by omega) fun y hy => hb y (by simp [hy])
      obtain ⟨x0, x1⟩ := hb x (by simp)
      have h0 := (numB_range c).1
      obtain ⟨m, hm⟩ := Int.eq_ofNat_of_zero_le h0
      obtain ⟨y, rfl⟩ := Int.eq_ofNat_of_zero_le x0
      rw [hm] at h1 h2
      have p := pow8 (w + 1) hw
      have h2' : m < 256 ^ w := by
        have e : (256 : Int) ^ w = ((256 ^ w : Nat) : Int) := by norm_cast
        rw [e] at h2
        omega
      have e2 : (256 : Nat) ^ (w + 1) = 256 * 256 ^ w := by rw [Nat.pow_succ]; omega
      have e3 : numB (c ++ [(y : Int)]) = ((256 * m + y : Nat) : Int) := by
        rw [numB_snoc, hm, wr_u64 (n := 256 * (m : Int)) (by omega) (by omega), wr_u64 (n := (y : Int)) (by omega) (by omega), wr_u64 (by omega) (by omega)]
        simp
      rw [e3]
      refine ⟨?_, ?_⟩
      · rw [bytesU_snoc (by omega) hw, h1]
      · have e : (256 : Int) ^ (w + 1) = ((256 ^ (w + 1) : Nat) : Int) := by norm_cast
        rw [e]
        omega
theorem one_rdF {k : Int} {b : List Int} (hb : byt b) (hl : ¬ b.length < (widK k).toNat) : oneF (rdF k b) = b.take (widK k).toNat := by
  unfold rdF
  by_cases hk : k = 6
  · subst hk
    rfl
  · rw [if_neg hk]
    have e : ∀ n, oneF ⟨k, n, zd⟩ = bytesU n (widK k).toNat := fun n => by unfold oneF; rw [if_neg hk]
    rw [e]
    exact (bytesU_numB _ _ (by simp; omega) (widK_le8 hk) fun x hx => hb x (List.mem_of_mem_take hx)).1
theorem rdF_k (k : Int) (b : List Int) : (rdF k b).k = k := by
  unfold rdF
  split
  · rename_i h; exact h.symm
  · rfl
theorem goF_back : ∀ (ks b : List Int) (acc m : List Fd) (r : List Int), byt ks → byt b → goF ks b acc = (m, r, 0) →
    ∃ l, m = acc ++ l ∧ kindsL l = ks ∧ flatF l ++ r = b ∧ (∀ f ∈ l, badF f = false) ∧ (∀ f ∈ l, f.ok)
  | [], b, acc, m, r, _, _, h => by
    simp only [goF, Prod.mk.injEq, and_true] at h
    obtain ⟨rfl, rfl⟩ := h
    exact ⟨[], by simp, rfl, by simp [flatF], by simp, by simp⟩
  | k :: ks, b, acc, m, r, hk, hb, h => by
    unfold goF at h
    split at h
    · simp at h
    · rename_i h1
      split at h
      · simp at h
      · rename_i h2
        obtain ⟨l, e1, e2, e3, e4, e5⟩ := goF_back ks _ _ m r (fun x hx => hk x (by simp [hx])) (fun x hx => hb x (List.mem_of_mem_drop hx)) h
        refine ⟨rdF k b :: l, by simp [e1], ?_, ?_, ?_, ?_⟩
        · show (rdF k b).k :: kindsL l = k :: ks
          rw [rdF_k, e2]
        · show oneF (rdF k b) ++ flatF l ++ r = b
          rw [one_rdF hb h1, List.append_assoc, e3, List.take_append_drop]
        · intro f hf
          rcases List.mem_cons.1 hf with rfl | hf
          · simpa using h2
          · exact e4 f hf
        · intro f hf
          rcases List.mem_cons.1 hf with rfl | hf
          · exact rdF_ok (hk k (by simp)) hb h1
          · exact e5 f hf
theorem read_back {ks b : List Int} (hk : byt ks) (hb : byt b) (h : (readL ks b).2 = 0) :
    kindsL (readL ks b).1 = ks ∧ rowE (readL ks b).1 = 0 ∧ flatF (readL ks b).1 = b ∧ ∀ f ∈ (readL ks b).1, f.ok := by
  unfold readL at h ⊢
  split at h
  · rename_i h1; exact absurd h h1
  · split at h
    · cases h
    · rename_i h1 h2
      rw [if_neg h1, if_neg h2]
      have h1 : (frstL ks b).2.2 = 0 := by simpa using h1
      have h2 : (frstL ks b).2.1 = [] := by simpa using h2
      unfold frstL at h1 h2 ⊢
      split at h1
      · cases h1
      · rename_i g1
        split at h1
        · cases h1
        · rename_i g2
          rw [if_neg g1, if_neg g2] at h2 ⊢
          have e : goF ks b [] = ((goF ks b []).1, [], 0) := by rw [← h1, ← h2]
          obtain ⟨l, e1, e2, e3, e4, e5⟩ := goF_back ks b [] _ [] hk hb e
          rw [List.nil_append] at e1
          dsimp only
          rw [e1]
          refine ⟨e2, row_of ?_ e4, by simpa using e3, e5⟩
          have : (kindsL l).length = ks.length := by rw [e2]
          simp [kindsL] at this
          omega
theorem goF_err : ∀ (ks b : List Int) (acc : List Fd), (goF ks b acc).2.2 = 0 ∨ (goF ks b acc).2.2 = 12
  | [], b, acc => .inl rfl
  | k :: ks, b, acc => by
    unfold goF
    split
    · exact .inr rfl
    · split
      · exact .inr rfl
      · exact goF_err ks _ _
theorem readL_err (ks b : List Int) : (readL ks b).2 = 0 ∨ (readL ks b).2 = 4 ∨ (readL ks b).2 = 2 ∨ (readL ks b).2 = 12 := by
  unfold readL
  split
  · rename_i h
    unfold frstL at h ⊢
    split
    · exact .inr (.inl rfl)
    · split
      · exact .inr (.inr (.inl rfl))
      · rcases goF_err ks b [] with h | h
        · exact .inl h
        · exact .inr (.inr (.inr h))
  · split
    · exact .inr (.inr (.inr rfl))
    · exact .inl rfl
theorem rowL_eq {l : List Fd} (h : rowE l = 0) : rowL l = flatF l := by unfold rowL; rw [if_neg (by simp [h])]
theorem flatF_app (l m : List Fd) : flatF (l ++ m) = flatF l ++ flatF m := by simp [flatF]
theorem kinds_byt {l : List Fd} (hl : ∀ f ∈ l, f.ok) : byt (kindsL l) := fun x hx => by
  obtain ⟨f, hf, rfl⟩ := List.mem_map.1 hx
  exact (hl f hf).k
theorem bytesU_byt (n : Int) (w : Nat) : byt (bytesU n w) := by
  induction w with
  | zero => intro x hx; cases hx
  | succ w ih =>
    intro x hx
    rcases List.mem_cons.1 hx with rfl | hx
    · unfold byteU
      simp [IntKind.wrap, IntKind.signed, IntKind.bits]
      omega
    · exact ih x hx
theorem flatF_byt {l : List Fd} (hl : ∀ f ∈ l, f.ok) : byt (flatF l) := fun x hx => by
  obtain ⟨f, hf, hx⟩ := List.mem_flatMap.1 hx
  unfold oneF at hx
  split at hx
  · exact (hl f hf).d.2 x hx
  · exact bytesU_byt _ _ x hx
end Go.Proofs.Ytgdpmnkmllelmaa.AM
