/- Ported by name: ReplyC. -/
import Derived.Test.YtipmkjfbdflneaaDoorpReplyB
namespace Go.Proofs.YtipmkjfbdflneaaDoor.AM
open Go Go.Proofs
set_option maxRecDepth 100000
def bytesP (r : Rp) : List Int := [r.c, 0, 0, 0] ++ bytesU r.t 4 ++ bytesU r.l0 4 ++ bytesU r.l1 4 ++ bytesU r.l2 4 ++ bytesU r.w 8 ++ [0, 0, 0, 0]
def bytesW (r : Rp) : List Int := [r.c, 0, 0, 0] ++ bytesU (IntKind.u64.wrap r.t) 4 ++ bytesU (IntKind.u64.wrap r.l0) 4 ++ bytesU (IntKind.u64.wrap r.l1) 4 ++ bytesU (IntKind.u64.wrap r.l2) 4 ++ bytesU r.w 8 ++ [0, 0, 0, 0]
theorem bytesW_eq {r : Rp} (hr : r.ok) : bytesW r = bytesP r := by
  have h2 := hr.t
  have h3 := hr.l0
  have h4 := hr.l1
  have h5 := hr.l2
  unfold bytesW bytesP
  rw [wr_u64 h2.1 (by omega), wr_u64 h3.1 (by omega), wr_u64 h4.1 (by omega), wr_u64 h5.1 (by omega)]
theorem byteU_1 {c : Int} (h : 0 ≤ c ∧ c < 256) : bytesU c 1 = [c] := by
  obtain ⟨m, rfl⟩ := Int.eq_ofNat_of_zero_le h.1
  have := byteU_nat m 0 (by omega)
  show [byteU (m : Int) (8 * (0 : Nat))] = [(m : Int)]
  rw [this]
  simp
  omega
theorem row_ok {r : Rp} (hr : r.ok) : ∀ f ∈ rowP r, f.ok := by
  have h1 := hr.c
  have h2 := hr.t
  have h3 := hr.l0
  have h4 := hr.l1
  have h5 := hr.l2
  have h6 := hr.w
  intro f hf
  simp only [rowP, List.mem_cons, List.not_mem_nil, or_false] at hf
  rcases hf with rfl | rfl | rfl | rfl | rfl | rfl | rfl | rfl | rfl | rfl | rfl | rfl | rfl <;> exact numF_ok (by decide) (by omega)
theorem row_fine {r : Rp} (hr : r.ok) : rowE (rowP r) = 0 := by
  have h1 := hr.c
  have h2 := hr.t
  have h3 := hr.l0
  have h4 := hr.l1
  have h5 := hr.l2
  have h6 := hr.w
  refine row_of (by simp [rowP]) fun f hf => ?_
  simp only [rowP, List.mem_cons, List.not_mem_nil, or_false] at hf
  rcases hf with rfl | rfl | rfl | rfl | rfl | rfl | rfl | rfl | rfl | rfl | rfl | rfl | rfl <;> simp [badF, widK, mostK] <;> omega
theorem row_flat {r : Rp} (hr : r.ok) : flatF (rowP r) = bytesP r := by
  have e1 : oneF (numF 2 r.c) = [r.c] := byteU_1 hr.c
  have e2 : oneF z7 = [0] := rfl
  have e3 : ∀ n, oneF (numF 4 n) = bytesU n 4 := fun n => rfl
  have e4 : ∀ n, oneF (numF 5 n) = bytesU n 8 := fun n => rfl
  simp only [flatF, rowP, bytesP, List.flatMap_cons, List.flatMap_nil, e1, e2, e3, e4, List.append_nil, List.append_assoc, List.cons_append, List.nil_append]
def kindsR : List Int := [2, 7, 7, 7, 4, 4, 4, 4, 5, 7, 7, 7, 7]
theorem row_kinds (r : Rp) : kindsL (rowP r) = kindsR := rfl
theorem bytesP_len (r : Rp) : (bytesP r).length = 32 := by simp [bytesP, bytesU_length]
theorem bytesP_byt {r : Rp} (hr : r.ok) : byt (bytesP r) := by rw [← row_flat hr]; exact flatF_byt (row_ok hr)
def num4 (b : List Int) (at_ : Nat) : Int := numB ((b.drop at_).take 4)
def rdP (b : List Int) : Rp := ⟨b.getD 0 0, num4 b 4, num4 b 8, num4 b 12, num4 b 16, numB ((b.drop 20).take 8)⟩
theorem num4_range {b : List Int} (hb : byt b) {n : Nat} (hl : n + 4 ≤ b.length) : 0 ≤ num4 b n ∧ num4 b n < 4294967296 := by
  have := bytesU_numB 4 ((b.drop n).take 4) (by simp; omega) (by decide) fun x hx => hb x (List.mem_of_mem_drop (List.mem_of_mem_take hx))
  exact ⟨(numB_range _).1, by simpa [num4] using this.2⟩
theorem rdP_ok {b : List Int} (hb : byt b) (hl : b.length = 32) : (rdP b).ok := by
  refine ⟨?_, num4_range hb (by omega), num4_range hb (by omega), num4_range hb (by omega), num4_range hb (by omega), numB_range _⟩
  have h0 : 0 < b.length := by omega
  have : b.getD 0 0 = b[0] := by simp [h0]
  show 0 ≤ b.getD 0 0 ∧ b.getD 0 0 < 256
  rw [this]
  exact hb _ (List.getElem_mem h0)
theorem num_bytes {n : Int} {w : Nat} (hw : w ≤ 8) (h0 : 0 ≤ n) (h1 : n < (256 ^ w : Nat)) : numB (bytesU n w) = n := by
  obtain ⟨m, rfl⟩ := Int.eq_ofNat_of_zero_le h0
  have := numB_bytesU m w hw
  rw [Nat.mod_eq_of_lt (by omega)] at this
  exact this
theorem rd_bytes {r : Rp} (hr : r.ok) : rdP (bytesP r) = r := by
  obtain ⟨c, t, l0, l1, l2, w⟩ := r
  have h2 := hr.t
  have h3 := hr.l0
  have h4 := hr.l1
  have h5 := hr.l2
  have h6 := hr.w
  dsimp only at h2 h3 h4 h5 h6
  have hl : ∀ n w, (bytesU n w).length = w := bytesU_length
  have e : bytesP ⟨c, t, l0, l1, l2, w⟩ = [c, 0, 0, 0] ++ (bytesU t 4 ++ (bytesU l0 4 ++ (bytesU l1 4 ++ (bytesU l2 4 ++ (bytesU w 8 ++ [0, 0, 0, 0]))))) := by simp [bytesP]
  have d : ∀ (a b : List Int) (n m : Nat), a.length = m → (a ++ b).drop (m + n) = b.drop n := fun a b n m h => by
    rw [List.drop_append, List.drop_eq_nil_of_le (by omega), List.nil_append, h]
    congr 1
    omega
  have k : ∀ (n : Int) (w : Nat) (b : List Int), (bytesU n w ++ b).take w = bytesU n w := fun n w b => List.take_left' (hl n w)
  unfold rdP num4
  rw [e]
  rw [d _ _ 0 4 rfl, d _ _ 4 4 rfl, d _ _ 8 4 rfl, d _ _ 12 4 rfl, d _ _ 16 4 rfl]
  rw [d _ _ 0 4 (hl t 4), d _ _ 4 4 (hl t 4), d _ _ 8 4 (hl t 4), d _ _ 12 4 (hl t 4)]
  rw [d _ _ 0 4 (hl l0 4), d _ _ 4 4 (hl l0 4), d _ _ 8 4 (hl l0 4)]
  rw [d _ _ 0 4 (hl l1 4), d _ _ 4 4 (hl l1 4)]
  rw [d _ _ 0 4 (hl l2 4)]
  simp only [List.drop_zero, k]
  rw [num_bytes (by decide) h2.1 (by simpa using h2.2), num_bytes (by decide) h3.1 (by simpa using h3.2), num_bytes (by decide) h4.1 (by simpa using h4.2), num_bytes (by decide) h5.1 (by simpa using h5.2), num_bytes (by decide) h6.1 (by simpa using h6.2)]
  rfl
end Go.Proofs.YtipmkjfbdflneaaDoor.AM
