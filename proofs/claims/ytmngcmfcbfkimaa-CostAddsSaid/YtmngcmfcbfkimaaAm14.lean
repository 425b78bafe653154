/- The abstract machine's operations are the model's: what a slice holds, append, copy. -/
import Derived.Test.YtmngcmfcbfkimaaAm13
namespace Go.Proofs.Ytmngcmfcbfkimaa.AM
open Go Go.RowKit

variable {P : Program} {X : Ctx} {W : World} {φ : Phi} {H L : HeapF} {w : World} {ρ : Nat → AV} {a : Act}

/-- What a slice holds, in the memory as it stands. -/
theorem shut0_ok (hS : HSim W φ H w) (hL : SubH L H) {x y : AV} {v : Value} (hr : Rel W φ H x v) (h : shut0 L x = some y) :
    y.stays = true ∧ y.isAgg = x.isAgg ∧ ∀ φ0 H0, Rel w φ0 H0 y v := by
  unfold shut0 at h
  split at h
  · cases h
    refine ⟨rfl, rfl, fun φ0 H0 => ?_⟩
    simp only [Rel] at hr
    obtain ⟨h1, rfl⟩ := hr
    exact Rel.plain h1
  · cases h
    refine ⟨rfl, rfl, fun φ0 H0 => ?_⟩
    simp only [Rel] at hr
    subst hr
    unfold Rel
    exact ⟨none, 0, rfl, by simp, trivial, trivial, .inl rfl⟩
  · cases h
    refine ⟨rfl, rfl, fun φ0 H0 => ?_⟩
    simp only [Rel] at hr
    obtain ⟨ao, c, rfl, h0, h1, h2, h3⟩ := hr
    unfold Rel
    refine ⟨ao, c, rfl, h0, h1, h2, ?_⟩
    rcases h3 with h3 | ⟨ad, h3, h4⟩
    · exact .inl h3
    · exact .inr ⟨ad, h3, h4.later hS.below⟩
  · rename_i id
    split at h
    · rename_i rw_ s l hx0
      have hH := hL _ _ hx0
      cases h
      refine ⟨rfl, rfl, fun φ0 H0 => ?_⟩
      simp only [Rel, hH] at hr
      obtain ⟨h1, h2, h3⟩ := hS.blk _ _ hH
      unfold Rel
      split at hr
      · obtain ⟨rfl, rfl⟩ := hr
        exact ⟨none, 0, rfl, by simp, trivial, trivial, .inl rfl⟩
      · rename_i b cap hφ
        obtain ⟨c, rfl, r1, r2⟩ := hr
        rw [hφ] at h3
        obtain ⟨cs, T, fr, h4, h5, h6, h7, h8, h9⟩ := h3
        refine ⟨_, c, rfl, r2, h1, h2, .inr ⟨_, rfl, ?_⟩⟩
        have := els_at h4 h8 h1 h2 (off := 0) (n := l.length) (by omega)
        simpa using this
    · cases h
  · rename_i id off n
    split at h
    · rename_i rw_ s l hx0
      have hH := hL _ _ hx0
      cases h
      refine ⟨rfl, rfl, fun φ0 H0 => ?_⟩
      simp only [Rel, hH] at hr
      obtain ⟨hon, hr⟩ := hr
      obtain ⟨h1, h2, h3⟩ := hS.blk _ _ hH
      have hlen : ((l.drop off).take n).length = n := by simp; omega
      unfold Rel
      rw [hlen]
      split at hr
      · obtain ⟨rfl, rfl⟩ := hr
        exact ⟨none, 0, rfl, by simp, by simp [PV.okL], by simp [PV.allSh], .inl (by simp)⟩
      · rename_i b cap hφ
        obtain ⟨ad, c, rfl, r1, r2, r3⟩ := hr
        rw [hφ] at h3
        obtain ⟨cs, T, fr, h4, h5, h6, h7, h8, h9⟩ := h3
        refine ⟨_, c, rfl, r2, okL_take (okL_drop h1 off) n, allSh_take (allSh_drop h2 off) n, ?_⟩
        rcases r3 with rfl | ⟨rfl, _⟩
        · exact .inr ⟨_, rfl, els_at h4 h8 h1 h2 hon⟩
        · exact .inl (by simp)
    · cases h
  · rename_i id path off n
    split at h
    · rename_i x0 hx0
      have hH := hL _ _ hx0
      split at h
      · rename_i k s l hnav
        cases h
        refine ⟨rfl, rfl, fun φ0 H0 => ?_⟩
        obtain ⟨hst, b, c, cs, T, vx, h1, h2, h3, h4⟩ := hS.blk _ _ hH
        obtain ⟨g1, g2, u, o, pre, post, g3, g4, g5, g6, _⟩ := navA_spec path x0 _ vx h3 hst hnav
        simp only [Rel, PV.ok] at g3
        obtain ⟨⟨q1, q2, q3⟩, rfl⟩ := g3
        simp only [Rel, hH] at hr
        obtain ⟨b', cap, o', k', s', ad, c', r1, r2, r3, r4, rfl, r5, r6⟩ := hr
        have g2' : shS x0.sh path = some (.arr k s) := g2
        rw [g2'] at r3
        cases r3
        rw [h1] at r1
        cases r1
        rw [g4] at r2
        cases r2
        have hlen : ((l.drop off).take n).length = n := by simp; omega
        unfold Rel
        rw [hlen]
        refine ⟨_, c', rfl, r5, okL_take (okL_drop q2 off) n, allSh_take (allSh_drop q3 off) n, ?_⟩
        rcases r6 with rfl | rfl
        · right
          refine ⟨_, rfl, ?_⟩
          subst h4
          have hrow := RowAt.of_block h2 g6
          rw [PV.cells_val_list] at hrow
          simp only [PV.cells] at hrow
          have h5 : PV.cellsL l = PV.cellsL (l.take off) ++ (PV.cellsL ((l.drop off).take n) ++ PV.cellsL ((l.drop off).drop n)) := by
            rw [← PV.cellsL_append, ← PV.cellsL_append, List.take_append_drop, List.take_append_drop]
          rw [h5] at hrow
          have := hrow.part
          rw [PV.cellsL_arr _ s (okL_take q2 off) (allSh_take q3 off), List.length_take, Nat.min_eq_left (by omega), AddrAdd, g5] at this
          exact this
        · exact .inl (by simp)
      · cases h
    · cases h
  · cases h

theorem shut0L_ok (hS : HSim W φ H w) (hL : SubH L H) : ∀ {l m : List AV} {vs : List Value}, RelL W φ H l vs → shut0L L l = some m →
    m.length = l.length ∧ (∀ y ∈ m, y.stays = true) ∧ ((∀ x ∈ l, x.isAgg = false) → ∀ y ∈ m, y.isAgg = false) ∧ ∀ φ0 H0, RelL w φ0 H0 m vs
  | [], m, vs, hr, h => by
    simp only [shut0L, Option.some.injEq] at h
    subst h
    cases vs with
    | nil => exact ⟨rfl, by simp, by simp, fun _ _ => by simp [RelL]⟩
    | cons v vs => simp [RelL] at hr
  | x :: l, m, vs, hr, h => by
    simp only [shut0L] at h
    split at h
    · rename_i y hy
      split at h
      · rename_i m' hm
        cases h
        cases vs with
        | nil => simp [RelL] at hr
        | cons v vs =>
          simp only [RelL] at hr
          obtain ⟨g1, g2, g3⟩ := shut0_ok hS hL hr.1 hy
          obtain ⟨k1, k2, k3, k4⟩ := shut0L_ok hS hL hr.2 hm
          refine ⟨by simp [k1], ?_, ?_, fun φ0 H0 => ?_⟩
          · intro z hz
            rcases List.mem_cons.1 hz with rfl | hz
            · exact g1
            · exact k2 z hz
          · intro hx z hz
            rcases List.mem_cons.1 hz with rfl | hz
            · rw [g2]; exact hx x (by simp)
            · exact k3 (fun a ha => hx a (by simp [ha])) z hz
          · simp only [RelL]
            exact ⟨g3 φ0 H0, k4 φ0 H0⟩
      · cases h
    · cases h

theorem shut1_ok (hS : HSim W φ H w) (hL : SubH L H) {x y : AV} {v : Value} (hr : Rel W φ H x v) (h : shut1 L x = some y) :
    y.stays = true ∧ y.isAgg = x.isAgg ∧ ∀ φ0 H0, Rel w φ0 H0 y v := by
  unfold shut1 at h
  split at h
  · rename_i l
    split at h
    · rename_i m hm
      cases h
      simp only [Rel] at hr
      obtain ⟨ao, c, vs, rfl, h1, h2, h3⟩ := hr
      obtain ⟨k1, k2, k3, k4⟩ := shut0L_ok hS hL h1 hm
      refine ⟨rfl, rfl, fun φ0 H0 => ?_⟩
      unfold Rel
      refine ⟨ao, c, vs, by rw [k1], k4 φ0 H0, fun z hz => ⟨k3 (fun a ha => (h2 a ha).1) z hz, k2 z hz⟩, ?_⟩
      rcases h3 with rfl | ⟨ad, rfl, h3⟩
      · left
        exact List.eq_nil_of_length_eq_zero (by rw [k1]; rfl)
      · exact .inr ⟨ad, rfl, h3.later hS.below⟩
    · cases h
  · rename_i id
    split at h
    · rename_i rw_ s l hx0
      exact shut0_ok hS hL hr (by simp only [shut0, hx0]; exact h)
    · rename_i l hx0
      have hH := hL _ _ hx0
      split at h
      · rename_i m hm
        cases h
        simp only [Rel, hH] at hr
        obtain ⟨b, cap, cs, T, fr, vs, h1, h2, h3, h4, h5⟩ := hS.blk _ _ hH
        rw [h1] at hr
        obtain ⟨c, rfl, _⟩ := hr
        obtain ⟨k1, k2, k3, k4⟩ := shut0L_ok hS hL h3 hm
        refine ⟨rfl, rfl, fun φ0 H0 => ?_⟩
        unfold Rel
        refine ⟨_, c, vs, by rw [k1], k4 φ0 H0, fun z hz => ⟨k3 (fun a ha => (h4 a ha).1) z hz, k2 z hz⟩, .inr ⟨_, rfl, ?_⟩⟩
        have hrow := rowOfBlock h2
        intro j c hj
        refine hrow j c ?_
        rw [← h5, List.getElem?_take] at hj
        split at hj
        · exact hj
        · cases hj
      · cases h
    · cases h
  · rename_i x0
    split at h
    · rename_i z hz
      cases h
      simp only [Rel] at hr
      obtain ⟨ad, u, rfl, r1, r2, r3⟩ := hr
      obtain ⟨g1, g2, g3⟩ := shut0_ok hS hL r1 hz
      refine ⟨rfl, rfl, fun φ0 H0 => ?_⟩
      unfold Rel
      exact ⟨ad, u, rfl, g3 φ0 H0, g1, r3.later hS.below⟩
    · cases h
  · rename_i id path
    split at h
    · rename_i x0 hx0
      have hH := hL _ _ hx0
      split at h
      · rename_i y0 hnav
        split at h
        · rename_i z hz
          cases h
          obtain ⟨hst, b, c, cs, T, vx, h1, h2, h3, h4⟩ := hS.blk _ _ hH
          obtain ⟨g1, g2, u, o, pre, post, g3, g4, g5, g6, _⟩ := navA_spec path x0 _ vx h3 hst hnav
          obtain ⟨k1, k2, k3⟩ := shut0_ok hS hL g3 hz
          simp only [Rel, hH] at hr
          obtain ⟨b', cap, o', r1, r2, rfl⟩ := hr
          rw [h1] at r1
          cases r1
          rw [g4] at r2
          cases r2
          refine ⟨rfl, rfl, fun φ0 H0 => ?_⟩
          unfold Rel
          subst h4 g5
          exact ⟨_, u, rfl, k3 φ0 H0, k1, RowAt.of_block h2 g6⟩
        · cases h
      · cases h
    · cases h
  · exact shut0_ok hS hL hr h

theorem shutL_ok (hS : HSim W φ H w) (hL : SubH L H) : ∀ {l m : List AV} {vs : List Value}, RelL W φ H l vs → shutL L l = some m →
    (∀ y ∈ m, y.stays = true) ∧ ∀ φ0 H0, RelL w φ0 H0 m vs
  | [], m, vs, hr, h => by
    simp only [shutL, Option.some.injEq] at h
    subst h
    cases vs with
    | nil => exact ⟨by simp, fun _ _ => by simp [RelL]⟩
    | cons v vs => simp [RelL] at hr
  | x :: l, m, vs, hr, h => by
    simp only [shutL] at h
    split at h
    · rename_i y hy
      split at h
      · rename_i m' hm
        cases h
        cases vs with
        | nil => simp [RelL] at hr
        | cons v vs =>
          simp only [RelL] at hr
          obtain ⟨g1, g2, g3⟩ := shut1_ok hS hL hr.1 hy
          obtain ⟨k2, k4⟩ := shutL_ok hS hL hr.2 hm
          refine ⟨?_, fun φ0 H0 => ?_⟩
          · intro z hz
            rcases List.mem_cons.1 hz with rfl | hz
            · exact g1
            · exact k2 z hz
          · simp only [RelL]
            exact ⟨g3 φ0 H0, k4 φ0 H0⟩
      · cases h
    · cases h

theorem shut_ok (hS : HSim W φ H w) (hL : SubH L H) {x y : AV} {v : Value} (hr : Rel W φ H x v) (h : shut L x = some y) : ∀ φ0 H0, Rel w φ0 H0 y v := by
  unfold shut at h
  split at h
  · rename_i l
    split at h
    · rename_i m hm
      cases h
      simp only [Rel] at hr
      obtain ⟨vs, h1, h2, rfl⟩ := hr
      obtain ⟨k2, k4⟩ := shutL_ok hS hL h1 hm
      intro φ0 H0
      unfold Rel
      exact ⟨vs, k4 φ0 H0, k2, rfl⟩
    · cases h
  · rename_i f l
    split at h
    · rename_i m hm
      cases h
      simp only [Rel] at hr
      obtain ⟨cs, rfl, h1⟩ := hr
      obtain ⟨k2, k4⟩ := shutL_ok hS hL h1 hm
      intro φ0 H0
      unfold Rel
      exact ⟨cs, rfl, k4 φ0 H0⟩
    · cases h
  · exact (shut1_ok hS hL hr h).2.2

theorem shutAll_ok (hS : HSim W φ H w) (hL : SubH L H) : ∀ {l m : List AV} {vs : List Value}, RelL W φ H l vs → shutAll L l = some m → ∀ φ0 H0, RelL w φ0 H0 m vs
  | [], m, vs, hr, h => by
    simp only [shutAll, Option.some.injEq] at h
    subst h
    cases vs with
    | nil => exact fun _ _ => by simp [RelL]
    | cons v vs => simp [RelL] at hr
  | x :: l, m, vs, hr, h => by
    simp only [shutAll] at h
    split at h
    · rename_i y hy
      split at h
      · rename_i m' hm
        cases h
        cases vs with
        | nil => simp [RelL] at hr
        | cons v vs =>
          simp only [RelL] at hr
          intro φ0 H0
          simp only [RelL]
          exact ⟨shut_ok hS hL hr.1 hy φ0 H0, shutAll_ok hS hL hr.2 hm φ0 H0⟩
      · cases h
    · cases h

end Go.Proofs.Ytmngcmfcbfkimaa.AM
