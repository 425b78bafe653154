/- Fields: the second of two texts. -/
import Derived.Test.YtipmkjfbdflneaaDoorpFieldY
namespace Go.Proofs.YtipmkjfbdflneaaDoor.AM
open Go Go.Proofs
set_option maxRecDepth 100000
theorem widK_nat (k : Int) : widK k = ((widK k).toNat : Int) := by
  unfold widK
  repeat' split
  all_goals rfl
theorem slice_tail (b : List Int) (w : Nat) : AV.ro ush (List.take ((bv b).length - (w : Int).toNat) (List.drop (w : Int).toNat (bv b))) = bvs (b.drop w) := by
  rw [List.take_of_length_le (by simp)]
  simp
theorem slice_head (b : List Int) (w : Nat) : AV.ro ush (List.take (w : Int).toNat (List.drop 0 (bv b))) = bvs (b.take w) := by
  simp
theorem slice_hlen {b : List Int} {w : Nat} (h : w ≤ b.length) : AV.p (.i .i64 ((List.take (w : Int).toNat (List.drop 0 (bv b))).length : Nat)) = .p (.i .i64 w) := by
  simp [h]
abbrev FS := Nat × List Fd × List Int
theorem f68_ok (ks b : List Int) (hk : byt ks) (hb : byt b) (hbl : b.length ≤ 100000) (hkl : ks.length < 9223372036854775807) :
    Fn Tryd.prog X.G 68 [bvs ks, bvs b] (.tup [fvs (frstL ks b).1, bvs (frstL ks b).2.1, .p (.i .i64 (frstL ks b).2.2)]) := by
  refine Fn.intro (I := []) hX hm 0 Tryd.func68 rfl rfl (by kernel_rfl) rfl ?_
  conv => whnf
  refine iteC (fun h => ?_) (fun h => ?_)
  · have h := of_decide_eq_true h
    rw [List.length_map] at h
    rw [show frstL ks b = ([], [], 4) from by unfold frstL; rw [if_pos (by omega)]]
    rfl
  have h := of_decide_eq_false h
  rw [List.length_map] at h
  conv => whnf
  refine ⟨_, f89_ok (fun k => widK k == 0) ks 90 hkl fun k hkk => f90_ok k (hk k hkk).1 (hk k hkk).2, ?_⟩
  conv => whnf
  refine iteC (fun h2 => ?_) (fun h2 => ?_)
  · rw [show frstL ks b = ([], [], 2) from by unfold frstL; rw [if_neg (by omega), if_pos h2]]
    rfl
  have htar : goF (ks.drop 0) b [] = frstL ks b := by unfold frstL; rw [if_neg (by omega), if_neg (by simp [h2])]; rfl
  generalize frstL ks b = T at *
  conv => whnf
  refine LoopJ.nil 7 1000 fsh rfl rfl ?_
  refine LoopJ.intro (I := []) (base' := 0) hX hm (by kernel_rfl) (σ := FS) (fun s => [(1, bvs s.2.2), (7, .own 1000), (19, bvs ks), (20, .p (.i .i64 ks.length)), (21, .p (.i .i64 s.1))]) (fun s => [(1000, .els true fsh (s.2.1.map fv))])
    (fun s => s.1 ≤ ks.length ∧ s.2.1.length = s.1 ∧ s.2.2.length ≤ b.length ∧ byt s.2.2 ∧ goF (ks.drop s.1) s.2.2 s.2.1 = T) (fun s => ks.length - s.1) (0, [], b) []
    ⟨Nat.zero_le _, rfl, Nat.le_refl _, hb, htar⟩ ⟨nofun, rfl, ⟨rfl, rfl, rfl, rfl, rfl, rfl, ?_, rfl, rfl, rfl, trivial⟩, ⟨rfl, rfl, trivial⟩⟩ ?_
  · show AV.p (.i .i64 ((bv ks).length : Int)) = .p (.i .i64 ks.length)
    rw [List.length_map]
  intro s hs
  obtain ⟨i1, i2, i3, i4, i5⟩ := hs
  conv => whnf
  refine iteC (fun h3 => ?_) (fun h3 => ?_)
  · have h3 := of_decide_eq_true h3
    have hlt : s.1 < ks.length := by omega
    have hg := getM (f := PV.i .u8) hlt
    rw [List.drop_eq_getElem_cons hlt] at i5
    have hkk := hk _ (List.getElem_mem hlt)
    have c1 := f64_ok ks[s.1] hkk.1 hkk.2
    generalize ks[s.1] = k at *
    have hwn := widK_nat k
    have hwl := widK_le k
    have hrd := rdF_ok hkk i4
    unfold goF at i5
    rw [hwn] at c1
    conv => whnf
    conv => arg 2; repeat (first | rw [hg] | (whnf; arg 2))
    conv => whnf
    refine ⟨_, c1, ?_⟩
    conv => whnf
    refine iteC (fun h4 => ?_) (fun h4 => ?_)
    · have h4 := of_decide_eq_true h4
      rw [List.length_map] at h4
      rw [if_pos (by omega)] at i5
      rw [← i5]
      rfl
    have h4 := of_decide_eq_false h4
    rw [List.length_map] at h4
    rw [if_neg (by omega)] at i5
    have hrd2 := hrd (by omega)
    clear hrd
    have hw8 : k ≠ 6 → (widK k).toNat ≤ 8 := widK_le8
    have hw6 : k = 6 → (widK k).toNat = 32 := fun e => by subst e; rfl
    have hr6 : k = 6 → rdF k s.2.2 = ⟨6, 0, s.2.2.take 32⟩ := fun e => by unfold rdF; rw [if_pos e]
    have hr5 : k ≠ 6 → rdF k s.2.2 = ⟨k, numB (s.2.2.take (widK k).toNat), zd⟩ := fun e => by unfold rdF; rw [if_neg e]
    generalize hW : (widK k).toNat = w at *
    have d0 : decide (0 ≤ (w : Int)) = true := decide_eq_true (by omega)
    have d1 : decide ((w : Int) ≤ ((bv s.2.2).length : Int)) = true := decide_eq_true (by rw [List.length_map]; omega)
    conv => whnf
    refine iteC (fun h5 => ?_) (fun h5 => ?_)
    · have h5 : k = 6 := by simpa using h5
      have hr := hr6 h5
      rw [hr] at i5 hrd2
      have hw := hw6 h5
      subst h5 hw
      have ec : copyL (List.replicate 32 (PV.i .u8 0)) 0 32 (bv s.2.2) = bv (s.2.2.take 32) := by
        unfold copyL
        rw [List.drop_eq_nil_of_le (by simp; omega)]
        simp
      have c2 : Fn Tryd.prog X.G 63 [.p (.st [.i .u8 6, .i .u64 0, .arr 32 ush (copyL (List.replicate 32 (PV.i .u8 0)) 0 32 (bv s.2.2))])] (.p (.i .i64 (chkF ⟨6, 0, s.2.2.take 32⟩))) := by
        rw [ec]
        exact f63_ok _ hrd2
      conv => whnf
      refine ⟨_, c2, ?_⟩
      conv => whnf
      refine iteC (fun h6 => ?_) (fun h6 => ?_)
      · have h6 : badF ⟨6, 0, s.2.2.take 32⟩ = true := by
          unfold chkF at h6
          by_cases hb : badF ⟨6, 0, s.2.2.take 32⟩ = true
          · exact hb
          · rw [if_neg hb] at h6; simp at h6
        rw [if_pos h6] at i5
        rw [← i5]
        rfl
      have h6 : ¬ badF ⟨6, 0, s.2.2.take 32⟩ = true := by
        unfold chkF at h6
        intro hb
        rw [if_pos hb] at h6; simp at h6
      rw [if_neg h6] at i5
      conv => whnf
      conv => arg 2; repeat (first | rw [capN _ (by simp; omega)] | (whnf; arg 2))
      conv => whnf
      conv => arg 2; repeat (first | rw [d0] | rw [d1] | (whnf; arg 2))
      conv => whnf
      refine ⟨(s.1 + 1, s.2.1 ++ [⟨6, 0, s.2.2.take 32⟩], s.2.2.drop 32), [(1000, 488)], ⟨by dsimp only; omega, by simp; omega, by simp; omega, fun x hx => i4 x (List.mem_of_mem_drop hx), i5⟩, by dsimp only; omega, nofun, rfl, ⟨?_, rfl, rfl, rfl, rfl, rfl, rfl, rfl, incN (by omega), rfl, trivial⟩, ⟨?_, rfl, trivial⟩⟩
      · exact slice_tail s.2.2 32
      · rw [List.map_append]
        show some (Blk.els true fsh (List.map fv s.2.1 ++ [PV.st [.i .u8 6, .i .u64 0, .arr 32 ush (copyL (List.replicate 32 (PV.i .u8 0)) 0 32 (bv s.2.2))]])) = _
        rw [ec]
        rfl
    · have h5 : k ≠ 6 := by simpa using h5
      have hr := hr5 h5
      rw [hr] at i5 hrd2
      have hw := hw8 h5
      conv => whnf
      conv => arg 2; repeat (first | rw [d0] | rw [d1] | (whnf; arg 2))
      conv => whnf
      refine LoopJ.intro (I := []) (base' := 0) hX hm (by kernel_rfl) (σ := Nat) (fun j => [(1, bvs s.2.2), (7, .own 1000), (10, .p (.i .i64 w)), (11, .ptr 88 []), (19, bvs ks), (20, .p (.i .i64 ks.length)), (21, .p (.i .i64 s.1)), (41, bvs (s.2.2.take w)), (42, .p (.i .i64 w)), (43, .p (.i .i64 j))])
        (fun j => [(88, .var (.p (fv ⟨k, numB ((s.2.2.take w).take j), zd⟩))), (1000, .els true fsh (s.2.1.map fv))]) (fun j => j ≤ w) (fun j => w - j) 0 []
        (Nat.zero_le _) ⟨nofun, rfl, ⟨rfl, rfl, rfl, rfl, rfl, rfl, rfl, rfl, rfl, rfl, rfl, rfl, rfl, rfl, ?_, rfl, ?_, rfl, rfl, rfl, trivial⟩, ⟨rfl, rfl, rfl, rfl, trivial⟩⟩ ?_
      · exact slice_head s.2.2 w
      · exact slice_hlen (by omega)
      intro j hj
      conv => whnf
      refine iteC (fun h6 => ?_) (fun h6 => ?_)
      · have h6 := of_decide_eq_true h6
        have hjw : j < w := by omega
        have hjt : j < (s.2.2.take w).length := by rw [List.length_take]; omega
        have hgj := getM (f := PV.i .u8) hjt
        have hby := i4 _ (List.mem_of_mem_take (List.getElem_mem hjt))
        have hstp := or_step (numB_range ((s.2.2.take w).take j)).1 hby.1 hby.2
        rw [← numB_step hjt] at hstp
        conv => whnf
        conv => arg 2; repeat (first | rw [hgj] | (whnf; arg 2))
        conv => whnf
        refine ⟨j + 1, [], by omega, by dsimp only; omega, nofun, rfl, ⟨rfl, rfl, rfl, rfl, rfl, rfl, rfl, rfl, rfl, rfl, rfl, rfl, rfl, rfl, rfl, rfl, rfl, rfl, incN (by omega), rfl, trivial⟩, ⟨?_, rfl, rfl, rfl, trivial⟩⟩
        rw [← hstp]
        rfl
      · have h6 := of_decide_eq_false h6
        have htk : (s.2.2.take w).take j = s.2.2.take w := List.take_of_length_le (by rw [List.length_take]; omega)
        rw [htk]
        have c2 := f63_ok _ hrd2
        conv => whnf
        refine ⟨_, c2, ?_⟩
        conv => whnf
        generalize hF : (⟨k, numB (s.2.2.take w), zd⟩ : Fd) = F at *
        refine iteC (fun h7 => ?_) (fun h7 => ?_)
        · have h7 : badF F = true := by
            unfold chkF at h7
            by_cases hb : badF F = true
            · exact hb
            · rw [if_neg hb] at h7; simp at h7
          rw [if_pos h7] at i5
          rw [← i5]
          rfl
        have h7 : ¬ badF F = true := by
          unfold chkF at h7
          intro hb
          rw [if_pos hb] at h7; simp at h7
        rw [if_neg h7] at i5
        subst hF
        conv => whnf
        conv => arg 2; repeat (first | rw [capN _ (by simp; omega)] | (whnf; arg 2))
        conv => whnf
        conv => arg 2; repeat (first | rw [d0] | rw [d1] | (whnf; arg 2))
        conv => whnf
        refine ⟨(s.1 + 1, s.2.1 ++ [⟨k, numB (s.2.2.take w), zd⟩], s.2.2.drop w), [(1000, 488)], ⟨by dsimp only; omega, by simp; omega, by simp; omega, fun x hx => i4 x (List.mem_of_mem_drop hx), i5⟩, by dsimp only; omega, nofun, rfl, ⟨?_, rfl, rfl, rfl, rfl, rfl, rfl, rfl, incN (by omega), rfl, trivial⟩, ⟨?_, rfl, trivial⟩⟩
        · exact slice_tail s.2.2 w
        · rw [List.map_append]
          rfl
  · have h3 := of_decide_eq_false h3
    have he : s.1 = ks.length := by omega
    rw [he, List.drop_length] at i5
    unfold goF at i5
    rw [← i5]
    conv => whnf
    refine ⟨_, f70_ok s.2.2 (by omega), ?_⟩
    conv => whnf
    rfl
end Go.Proofs.YtipmkjfbdflneaaDoor.AM

namespace Go.Proofs.YtipmkjfbdflneaaDoor.AM
open Go Go.Proofs
set_option maxRecDepth 100000
theorem bad_of {F : Fd} (h : (chkF F != 0) = true) : badF F = true := by
  unfold chkF at h
  by_cases hb : badF F = true
  · exact hb
  · rw [if_neg hb] at h; simp at h
theorem bad_not {F : Fd} (h : (chkF F != 0) = false) : ¬ badF F = true := by
  unfold chkF at h
  intro hb
  rw [if_pos hb] at h; simp at h
theorem setD_step {d : List Int} {b : List Int} {j : Nat} (hd : d.length = 32) (hj : j < 32) (hb : 32 ≤ b.length) :
    (bv (b.take j ++ d.drop j)).set j (.i .u8 b[j]) = bv (b.take (j + 1) ++ d.drop (j + 1)) := by
  apply List.ext_getElem
  · simp; omega
  · intro n h1 h2
    simp only [List.length_set, List.length_map, List.length_append, List.length_take, List.length_drop] at h1
    rw [List.getElem_set]
    by_cases hn : j = n
    · subst hn
      rw [if_pos rfl]
      simp only [List.getElem_map]
      rw [List.getElem_append_left (by rw [List.length_take]; omega)]
      simp
    · rw [if_neg hn]
      simp only [List.getElem_map]
      by_cases hlt : n < j
      · rw [List.getElem_append_left (by rw [List.length_take]; omega), List.getElem_append_left (by rw [List.length_take]; omega)]
        simp
      · rw [List.getElem_append_right (by rw [List.length_take]; omega), List.getElem_append_right (by rw [List.length_take]; omega)]
        simp only [List.length_take, List.getElem_drop]
        congr 2
        omega
def readL (ks b : List Int) : List Fd × Int :=
  if (frstL ks b).2.2 ≠ 0 then ([], (frstL ks b).2.2) else if (frstL ks b).2.1.length > 0 then ([], 12) else ((frstL ks b).1, 0)
theorem f34_ok (ks b : List Int) (hk : byt ks) (hb : byt b) (hbl : b.length ≤ 100000) (hkl : ks.length < 9223372036854775807) :
    Fn Tryd.prog X.G 34 [bvs ks, bvs b] (.tup [fvs (readL ks b).1, .p (.i .i64 (readL ks b).2)]) := by
  refine Fn.intro (I := []) hX hm 0 Tryd.func34 rfl rfl (by kernel_rfl) rfl ?_
  have c := f68_ok ks b hk hb hbl hkl
  unfold readL
  generalize frstL ks b = T at *
  obtain ⟨l, r, e⟩ := T
  dsimp only at *
  conv => whnf
  refine ⟨_, c, ?_⟩
  conv => whnf
  refine iteC (fun h => ?_) (fun h => ?_)
  · rw [if_pos (by simpa using h)]
    rfl
  rw [if_neg (by simpa using h)]
  conv => whnf
  refine iteC (fun h2 => ?_) (fun h2 => ?_)
  · have h2 := of_decide_eq_true h2
    rw [List.length_map] at h2
    rw [if_pos (by omega)]
    rfl
  · have h2 := of_decide_eq_false h2
    rw [List.length_map] at h2
    rw [if_neg (by omega)]
    rfl
theorem same_fv (x y : Fd) : PV.same (fv x) (fv y) = decide (x = y) := by
  obtain ⟨a, b, c⟩ := x
  obtain ⟨d, e, f⟩ := y
  simp only [PV.same, PV.sameL, sameL_bv, Fd.mk.injEq, Bool.and_true]
  by_cases h1 : a = d <;> by_cases h2 : b = e <;> by_cases h3 : c = f <;> simp [h1, h2, h3]
theorem goF_len : ∀ (ks b : List Int) (acc : List Fd), (goF ks b acc).1.length ≤ acc.length + ks.length ∧ (goF ks b acc).2.1.length ≤ b.length
  | [], b, acc => by simp [goF]
  | k :: ks, b, acc => by
    unfold goF
    split
    · simp
    · split
      · simp
      · have := goF_len ks (b.drop (widK k).toNat) (acc ++ [rdF k b])
        simp at this ⊢
        omega
theorem frstL_len (ks b : List Int) : (frstL ks b).1.length ≤ 40 ∧ (frstL ks b).2.1.length ≤ b.length := by
  unfold frstL
  split
  · simp
  · split
    · simp
    · have := goF_len ks b []
      simp at this
      omega
theorem readL_len (ks b : List Int) : (readL ks b).1.length ≤ 40 := by
  unfold readL
  split
  · simp
  · split
    · simp
    · exact (frstL_len ks b).1
abbrev numF (k n : Int) : Fd := ⟨k, n, zd⟩
theorem numF_ok {k n : Int} (h1 : 0 ≤ k ∧ k < 256) (h2 : 0 ≤ n ∧ n < 18446744073709551616) : (numF k n).ok :=
  ⟨h1, h2, by simp, fun x hx => by have := List.eq_of_mem_replicate hx; omega⟩
def gf : List Fd := [numF 4 258, numF 1 1, numF 3 3]
theorem gf_ok : ∀ f ∈ gf, f.ok := by
  intro f hf
  simp only [gf, List.mem_cons, List.not_mem_nil, or_false] at hf
  rcases hf with rfl | rfl | rfl <;> exact numF_ok (by decide) (by decide)
theorem byt_of {l : List Int} (h : l.all (fun x => decide (0 ≤ x) && decide (x < 256)) = true) : byt l := fun x hx => by
  have := List.all_eq_true.1 h x hx
  simpa using this
def kindsL (l : List Fd) : List Int := l.map Fd.k
theorem kinds_step {l : List Fd} {i : Nat} (h : i < l.length) : kindsL (l.take (i + 1)) = kindsL (l.take i) ++ [l[i].k] := by
  unfold kindsL
  rw [List.take_add_one, List.map_append]
  simp [h]
theorem byte_at {m w i : Nat} (hw : w ≤ 8) (hi : i < w) : (bytesU (m : Int) w)[i]'(by rw [bytesU_length]; exact hi) = ((m / 256 ^ (w - 1 - i) % 256 : Nat) : Int) := by
  rw [bytesU_get _ hi]
  have := byteU_nat m (w - 1 - i) (by omega)
  rw [← this]
theorem quot_step {m w i : Nat} (hi : i < w) : m / 256 ^ (w - 1 - i) = 256 * (m / 256 ^ (w - i)) + m / 256 ^ (w - 1 - i) % 256 := by
  have e : 256 ^ (w - i) = 256 ^ (w - 1 - i) * 256 := by
    rw [← Nat.pow_succ]
    congr 1
    omega
  rw [e, ← Nat.div_div_eq_div_mul]
  omega
theorem quot_eq {m n w : Nat} (hw : w ≤ 8) (hm : m < 256 ^ w) (hn : n < 256 ^ w) :
    ∀ (i : Nat), i ≤ w → (∀ j (h : j < w), j < i → (bytesU (m : Int) w)[j]'(by rw [bytesU_length]; exact h) = (bytesU (n : Int) w)[j]'(by rw [bytesU_length]; exact h)) → m / 256 ^ (w - i) = n / 256 ^ (w - i) := by
  intro i
  induction i with
  | zero => intro _ _; rw [Nat.sub_zero, Nat.div_eq_of_lt hm, Nat.div_eq_of_lt hn]
  | succ i ih =>
    intro hi h
    have e := ih (by omega) fun j hj hji => h j hj (by omega)
    have hb := h i (by omega) (by omega)
    rw [byte_at hw (by omega), byte_at hw (by omega)] at hb
    have hb := Int.ofNat.inj hb
    have h1 := quot_step (m := m) (w := w) (i := i) (by omega)
    have h2 := quot_step (m := n) (w := w) (i := i) (by omega)
    rw [show w - (i + 1) = w - 1 - i by omega]
    omega
theorem bytes_cmp {m n w : Nat} (hw : w ≤ 8) (hm : m < 256 ^ w) (hn : n < 256 ^ w) (i : Nat) (hi : i < w)
    (h : ∀ j (h : j < w), j < i → (bytesU (m : Int) w)[j]'(by rw [bytesU_length]; exact h) = (bytesU (n : Int) w)[j]'(by rw [bytesU_length]; exact h))
    (hne : (bytesU (m : Int) w)[i]'(by rw [bytesU_length]; exact hi) ≠ (bytesU (n : Int) w)[i]'(by rw [bytesU_length]; exact hi)) :
    ((bytesU (m : Int) w)[i]'(by rw [bytesU_length]; exact hi) < (bytesU (n : Int) w)[i]'(by rw [bytesU_length]; exact hi) ↔ m < n) ∧ m ≠ n := by
  have e := quot_eq hw hm hn i (by omega) h
  rw [byte_at hw hi, byte_at hw hi] at *
  have h1 := quot_step (m := m) hi
  have h2 := quot_step (m := n) hi
  have h3 : m < n ↔ m / 256 ^ (w - 1 - i) < n / 256 ^ (w - 1 - i) ∨ (m / 256 ^ (w - 1 - i) = n / 256 ^ (w - 1 - i) ∧ m < n) := by
    constructor
    · intro hlt
      have := Nat.div_le_div_right (c := 256 ^ (w - 1 - i)) (Nat.le_of_lt hlt)
      omega
    · rintro (hlt | ⟨_, hlt⟩)
      · apply Classical.byContradiction
        intro hnl
        have := Nat.div_le_div_right (c := 256 ^ (w - 1 - i)) (Nat.le_of_not_lt hnl)
        omega
      · exact hlt
  have hne' : m / 256 ^ (w - 1 - i) % 256 ≠ n / 256 ^ (w - 1 - i) % 256 := fun hh => hne (by rw [hh])
  have hmn : m ≠ n := fun hh => by rw [hh] at hne'; exact hne' rfl
  refine ⟨?_, hmn⟩
  rw [h3]
  omega
theorem num_lt {k n : Int} (h0 : 0 ≤ n) (h : chkF (numF k n) = 0) (h6 : k ≠ 6) : n.toNat < 256 ^ (widK k).toNat := by
  unfold chkF at h
  have hb : ¬ badF (numF k n) = true := fun hb => by rw [if_pos hb] at h; cases h
  have hb : badF (numF k n) = false := by simpa using hb
  simp only [badF, Bool.or_eq_false_iff, decide_eq_false_iff_not] at hb
  obtain ⟨h1, h2, _⟩ := hb
  unfold mostK at h2
  unfold widK at h1 ⊢
  repeat' split at h1
  all_goals simp_all
  all_goals omega
/-- What the law needs of the bytes of two numbers. -/
theorem order_facts {k x y : Int} (hx : 0 ≤ x) (hy : 0 ≤ y) (hcx : chkF (numF k x) = 0) (hcy : chkF (numF k y) = 0) :
    ∃ a b : List Int, oneF (numF k x) = a ∧ oneF (numF k y) = b ∧ ((a.length : Nat) : Int) = widK k ∧ ((b.length : Nat) : Int) = widK k ∧
    (∀ i (h1 : i < a.length) (h2 : i < b.length), (∀ j (h1 : j < a.length) (h2 : j < b.length), j < i → a[j] = b[j]) → a[i] ≠ b[i] → (decide (a[i] < b[i]) == decide (x < y)) = true ∧ (x != y) = true) ∧
    ((∀ j (h1 : j < a.length) (h2 : j < b.length), a[j] = b[j]) → x = y) := by
  by_cases h6 : k = 6
  · subst h6
    have e : ∀ z, oneF (numF 6 z) = zd := fun z => rfl
    have e0 : ∀ z, 0 ≤ z → chkF (numF 6 z) = 0 → z = 0 := fun z hz h => by
      unfold chkF at h
      have hb : ¬ badF (numF 6 z) = true := fun hb => by rw [if_pos hb] at h; cases h
      simp [badF, mostK, widK] at hb
      omega
    refine ⟨zd, zd, e x, e y, rfl, rfl, fun i h1 h2 _ hne => absurd rfl hne, fun _ => ?_⟩
    rw [e0 x hx hcx, e0 y hy hcy]
  · have l1 := num_lt hx hcx h6
    have l2 := num_lt hy hcy h6
    have hw := widK_le8 h6
    obtain ⟨m, rfl⟩ := Int.eq_ofNat_of_zero_le hx
    obtain ⟨n, rfl⟩ := Int.eq_ofNat_of_zero_le hy
    have e : ∀ z : Nat, oneF (numF k (z : Int)) = bytesU (z : Int) (widK k).toNat := fun z => by unfold oneF; rw [if_neg h6]
    have hwn := widK_nat k
    rw [show ((m : Nat) : Int).toNat = m from rfl] at l1
    rw [show ((n : Nat) : Int).toNat = n from rfl] at l2
    generalize (widK k).toNat = w at *
    refine ⟨bytesU (m : Int) w, bytesU (n : Int) w, e m, e n, by rw [bytesU_length, hwn], by rw [bytesU_length, hwn], ?_, ?_⟩
    · intro i h1 h2 hall hne
      rw [bytesU_length] at h1
      obtain ⟨g1, g2⟩ := bytes_cmp hw l1 l2 i h1 (fun j hj hji => hall j (by rw [bytesU_length]; exact hj) (by rw [bytesU_length]; exact hj) hji) hne
      constructor
      · simp only [beq_iff_eq, decide_eq_decide, g1]
        omega
      · simp only [bne_iff_ne]
        omega
    · intro hall
      have := quot_eq hw l1 l2 w (Nat.le_refl _) fun j hj _ => hall j (by rw [bytesU_length]; exact hj) (by rw [bytesU_length]; exact hj)
      simp at this
      rw [this]
theorem row_one {f : Fd} (h : chkF f = 0) : rowE [f] = 0 ∧ rowL [f] = oneF f := by
  have hb : badF f = false := by
    unfold chkF at h
    by_cases hb : badF f = true
    · rw [if_pos hb] at h; cases h
    · simpa using hb
  have e : rowE [f] = 0 := by simp [rowE, hb]
  refine ⟨e, ?_⟩
  unfold rowL
  rw [e, if_neg (by simp)]
  simp [flatF]
theorem good_of {f : Fd} (h : badF f = false) : widK f.k ≠ 0 ∧ f.n ≤ mostK f.k ∧ (f.k ≠ 6 → f.d = zd) := by
  simp only [badF, Bool.or_eq_false_iff, Bool.and_eq_false_iff, decide_eq_false_iff_not] at h
  obtain ⟨h1, h2, h3⟩ := h
  refine ⟨h1, by omega, fun hk => ?_⟩
  rcases h3 with h3 | h3
  · exact absurd hk h3
  · exact Classical.not_not.1 h3
theorem oneF_wid {f : Fd} (hf : f.ok) : (oneF f).length = (widK f.k).toNat := by
  unfold oneF
  split
  · rename_i h
    rw [h, hf.d.1]
    rfl
  · rw [bytesU_length]
theorem rdF_one {f : Fd} (hf : f.ok) (h : badF f = false) (r : List Int) : rdF f.k (oneF f ++ r) = f := by
  obtain ⟨h1, h2, h3⟩ := good_of h
  have hl := oneF_wid hf
  obtain ⟨k, n, d⟩ := f
  dsimp only at *
  unfold rdF
  by_cases hk : k = 6
  · subst hk
    rw [if_pos rfl]
    have hd := hf.d.1
    have hn : n = 0 := by
      have := hf.n.1
      simp [mostK] at h2
      dsimp only at this
      omega
    subst hn
    have e : oneF ⟨6, 0, d⟩ = d := rfl
    rw [e, List.take_left' (by exact hd)]
  · rw [if_neg hk, ← hl, List.take_left]
    have hd := h3 hk
    subst hd
    have e : oneF ⟨k, n, zd⟩ = bytesU n (widK k).toNat := by unfold oneF; rw [if_neg hk]
    rw [e]
    have hc : chkF (numF k n) = 0 := by unfold chkF; rw [if_neg (by rw [show badF (numF k n) = false from h]; simp)]
    have hlt := num_lt hf.n.1 hc hk
    have hnn := hf.n.1
    obtain ⟨m, rfl⟩ := Int.eq_ofNat_of_zero_le hnn
    have := numB_bytesU m (widK k).toNat (widK_le8 hk)
    rw [show ((m : Nat) : Int).toNat = m from rfl] at hlt
    rw [Nat.mod_eq_of_lt hlt] at this
    exact congrArg (fun x => (⟨k, x, zd⟩ : Fd)) this
theorem goF_write : ∀ (l : List Fd), (∀ f ∈ l, f.ok ∧ badF f = false) → ∀ (r : List Int) (acc : List Fd), goF (kindsL l) (flatF l ++ r) acc = (acc ++ l, r, 0)
  | [], _, r, acc => by simp [goF, kindsL, flatF]
  | f :: l, h, r, acc => by
    obtain ⟨hf, hb⟩ := h f (by simp)
    have hl := oneF_wid hf
    have e : flatF (f :: l) ++ r = oneF f ++ (flatF l ++ r) := by simp [flatF]
    have ek : kindsL (f :: l) = f.k :: kindsL l := rfl
    rw [e, ek]
    unfold goF
    rw [if_neg (by simp; omega), rdF_one hf hb, if_neg (by simp [hb]), ← hl, List.drop_left, goF_write l (fun g hg => h g (by simp [hg]))]
    simp
theorem row_good {l : List Fd} (h : rowE l = 0) : l.length ≤ 40 ∧ ∀ f ∈ l, badF f = false := by
  refine ⟨rowE_len h, fun f hf => ?_⟩
  unfold rowE at h
  split at h
  · cases h
  · split at h
    · cases h
    · rename_i h2
      cases hb : badF f with
      | false => rfl
      | true => exact absurd (List.any_eq_true.2 ⟨f, hf, hb⟩) h2
theorem row_of {l : List Fd} (h1 : l.length ≤ 40) (h2 : ∀ f ∈ l, badF f = false) : rowE l = 0 := by
  unfold rowE
  rw [if_neg (by omega), if_neg]
  rw [List.any_eq_true]
  rintro ⟨f, hf, hb⟩
  rw [h2 f hf] at hb
  cases hb
theorem kinds_any {l : List Fd} (h2 : ∀ f ∈ l, badF f = false) : ¬ (kindsL l).any (fun k => widK k == 0) = true := by
  rw [List.any_eq_true]
  rintro ⟨k, hk, hb⟩
  obtain ⟨f, hf, rfl⟩ := List.mem_map.1 hk
  exact (good_of (h2 f hf)).1 (by simpa using hb)
theorem frst_write {l : List Fd} (hl : ∀ f ∈ l, f.ok) (h : rowE l = 0) (r : List Int) : frstL (kindsL l) (flatF l ++ r) = (l, r, 0) := by
  obtain ⟨h1, h2⟩ := row_good h
  unfold frstL
  rw [if_neg (by simp [kindsL]; omega), if_neg (kinds_any h2), goF_write l (fun f hf => ⟨hl f hf, h2 f hf⟩)]
  simp
theorem read_write {l : List Fd} (hl : ∀ f ∈ l, f.ok) (h : rowE l = 0) : readL (kindsL l) (flatF l) = (l, 0) := by
  have := frst_write hl h []
  rw [List.append_nil] at this
  unfold readL
  rw [this, if_neg (by simp), if_neg (by simp)]
theorem read_more {l : List Fd} (hl : ∀ f ∈ l, f.ok) (h : rowE l = 0) : readL (kindsL l) (flatF l ++ [0]) = ([], 12) := by
  have := frst_write hl h [0]
  unfold readL
  rw [this, if_neg (by simp), if_pos (by simp)]
theorem goF_short : ∀ (l : List Fd), (∀ f ∈ l, f.ok) → ∀ (b : List Int) (acc : List Fd), b.length < (flatF l).length → goF (kindsL l) b acc = ([], [], 12)
  | [], _, b, acc, h => by simp [flatF] at h
  | f :: l, hl, b, acc, h => by
    have e : flatF (f :: l) = oneF f ++ flatF l := by simp [flatF]
    have ek : kindsL (f :: l) = f.k :: kindsL l := rfl
    have hw := oneF_wid (hl f (by simp))
    rw [e, List.length_append] at h
    rw [ek]
    unfold goF
    split
    · rfl
    · split
      · rfl
      · exact goF_short l (fun g hg => hl g (by simp [hg])) _ _ (by rw [List.length_drop]; omega)
theorem read_short {l : List Fd} (hl : ∀ f ∈ l, f.ok) (h : rowE l = 0) {b : List Int} (hb : b.length < (flatF l).length) : readL (kindsL l) b = ([], 12) := by
  obtain ⟨h1, h2⟩ := row_good h
  have e : frstL (kindsL l) b = ([], [], 12) := by
    unfold frstL
    rw [if_neg (by simp [kindsL]; omega), if_neg (kinds_any h2), goF_short l hl b [] hb]
  unfold readL
  rw [e]
  rfl
theorem bytesU_snoc {m x w : Nat} (hx : x < 256) (hw : w + 1 ≤ 8) : bytesU ((256 * m + x : Nat) : Int) (w + 1) = bytesU (m : Int) w ++ [(x : Int)] := by
  apply List.ext_getElem
  · simp [bytesU_length]
  · intro i h1 h2
    rw [bytesU_length] at h1
    rw [byte_at hw h1]
    by_cases hi : i < w
    · rw [List.getElem_append_left (by rw [bytesU_length]; exact hi), byte_at (by omega) hi]
      rw [show w + 1 - 1 - i = (w - 1 - i) + 1 by omega, Nat.pow_succ, Nat.mul_comm _ 256, ← Nat.div_div_eq_div_mul]
      rw [show (256 * m + x) / 256 = m by omega]
    · have : i = w := by omega
      subst this
      rw [List.getElem_append_right (by rw [bytesU_length]; omega)]
      simp [bytesU_length]
      omega
theorem numB_snoc (b : List Int) (x : Int) : numB (b ++ [x]) = IntKind.u64.wrap (IntKind.u64.wrap (256 * numB b) + IntKind.u64.wrap x) := by
  unfold numB
  rw [List.foldl_append]
  rfl
theorem bytesU_numB : ∀ (w : Nat) (b : List Int), b.length = w → w ≤ 8 → byt b → bytesU (numB b) w = b ∧ numB b < 256 ^ w
  | 0, b, hl, _, _ => by
    have : b = [] := List.length_eq_zero_iff.1 hl
    subst this
    exact ⟨rfl, by simp [numB]⟩
  | w + 1, b, hl, hw, hb => by
    rcases List.eq_nil_or_concat b with rfl | ⟨c, x, rfl⟩
    · simp at hl
    · rw [List.concat_eq_append] at *
      have hcl : c.length = w := by simpa using hl
      obtain ⟨h1, h2⟩ := bytesU_numB w c hcl (by omega) fun y hy => hb y (by simp [hy])
      obtain ⟨x0, x1⟩ := hb x (by simp)
      have h0 := (numB_range c).1
      obtain ⟨m, hm⟩ := Int.eq_ofNat_of_zero_le h0
      obtain ⟨y, rfl⟩ := Int.eq_ofNat_of_zero_le x0
      rw [hm] at h1 h2
      have p := pow8 (w + 1) hw
      have h2' : m < 256 ^ w := by
        have e : (256 : Int) ^ w = ((256 ^ w : Nat) : Int) := by norm_cast
        rw [e] at h2
        omega
      have e2 : (256 : Nat) ^ (w + 1) = 256 * 256 ^ w := by rw [Nat.pow_succ]; omega
      have e3 : numB (c ++ [(y : Int)]) = ((256 * m + y : Nat) : Int) := by
        rw [numB_snoc, hm, wr_u64 (n := 256 * (m : Int)) (by omega) (by omega), wr_u64 (n := (y : Int)) (by omega) (by omega), wr_u64 (by omega) (by omega)]
        simp
      rw [e3]
      refine ⟨?_, ?_⟩
      · rw [bytesU_snoc (by omega) hw, h1]
      · have e : (256 : Int) ^ (w + 1) = ((256 ^ (w + 1) : Nat) : Int) := by norm_cast
        rw [e]
        omega
theorem one_rdF {k : Int} {b : List Int} (hb : byt b) (hl : ¬ b.length < (widK k).toNat) : oneF (rdF k b) = b.take (widK k).toNat := by
  unfold rdF
  by_cases hk : k = 6
  · subst hk
    rfl
  · rw [if_neg hk]
    have e : ∀ n, oneF ⟨k, n, zd⟩ = bytesU n (widK k).toNat := fun n => by unfold oneF; rw [if_neg hk]
    rw [e]
    exact (bytesU_numB _ _ (by simp; omega) (widK_le8 hk) fun x hx => hb x (List.mem_of_mem_take hx)).1
theorem rdF_k (k : Int) (b : List Int) : (rdF k b).k = k := by
  unfold rdF
  split
  · rename_i h; exact h.symm
  · rfl
theorem goF_back : ∀ (ks b : List Int) (acc m : List Fd) (r : List Int), byt ks → byt b → goF ks b acc = (m, r, 0) →
    ∃ l, m = acc ++ l ∧ kindsL l = ks ∧ flatF l ++ r = b ∧ (∀ f ∈ l, badF f = false) ∧ (∀ f ∈ l, f.ok)
  | [], b, acc, m, r, _, _, h => by
    simp only [goF, Prod.mk.injEq, and_true] at h
    obtain ⟨rfl, rfl⟩ := h
    exact ⟨[], by simp, rfl, by simp [flatF], by simp, by simp⟩
  | k :: ks, b, acc, m, r, hk, hb, h => by
    unfold goF at h
    split at h
    · simp at h
    · rename_i h1
      split at h
      · simp at h
      · rename_i h2
        obtain ⟨l, e1, e2, e3, e4, e5⟩ := goF_back ks _ _ m r (fun x hx => hk x (by simp [hx])) (fun x hx => hb x (List.mem_of_mem_drop hx)) h
        refine ⟨rdF k b :: l, by simp [e1], ?_, ?_, ?_, ?_⟩
        · show (rdF k b).k :: kindsL l = k :: ks
          rw [rdF_k, e2]
        · show oneF (rdF k b) ++ flatF l ++ r = b
          rw [one_rdF hb h1, List.append_assoc, e3, List.take_append_drop]
        · intro f hf
          rcases List.mem_cons.1 hf with rfl | hf
          · simpa using h2
          · exact e4 f hf
        · intro f hf
          rcases List.mem_cons.1 hf with rfl | hf
          · exact rdF_ok (hk k (by simp)) hb h1
          · exact e5 f hf
theorem read_back {ks b : List Int} (hk : byt ks) (hb : byt b) (h : (readL ks b).2 = 0) :
    kindsL (readL ks b).1 = ks ∧ rowE (readL ks b).1 = 0 ∧ flatF (readL ks b).1 = b ∧ ∀ f ∈ (readL ks b).1, f.ok := by
  unfold readL at h ⊢
  split at h
  · rename_i h1; exact absurd h h1
  · split at h
    · cases h
    · rename_i h1 h2
      rw [if_neg h1, if_neg h2]
      have h1 : (frstL ks b).2.2 = 0 := by simpa using h1
      have h2 : (frstL ks b).2.1 = [] := by simpa using h2
      unfold frstL at h1 h2 ⊢
      split at h1
      · cases h1
      · rename_i g1
        split at h1
        · cases h1
        · rename_i g2
          rw [if_neg g1, if_neg g2] at h2 ⊢
          have e : goF ks b [] = ((goF ks b []).1, [], 0) := by rw [← h1, ← h2]
          obtain ⟨l, e1, e2, e3, e4, e5⟩ := goF_back ks b [] _ [] hk hb e
          rw [List.nil_append] at e1
          dsimp only
          rw [e1]
          refine ⟨e2, row_of ?_ e4, by simpa using e3, e5⟩
          have : (kindsL l).length = ks.length := by rw [e2]
          simp [kindsL] at this
          omega
theorem goF_err : ∀ (ks b : List Int) (acc : List Fd), (goF ks b acc).2.2 = 0 ∨ (goF ks b acc).2.2 = 12
  | [], b, acc => .inl rfl
  | k :: ks, b, acc => by
    unfold goF
    split
    · exact .inr rfl
    · split
      · exact .inr rfl
      · exact goF_err ks _ _
theorem readL_err (ks b : List Int) : (readL ks b).2 = 0 ∨ (readL ks b).2 = 4 ∨ (readL ks b).2 = 2 ∨ (readL ks b).2 = 12 := by
  unfold readL
  split
  · rename_i h
    unfold frstL at h ⊢
    split
    · exact .inr (.inl rfl)
    · split
      · exact .inr (.inr (.inl rfl))
      · rcases goF_err ks b [] with h | h
        · exact .inl h
        · exact .inr (.inr (.inr h))
  · split
    · exact .inr (.inr (.inr rfl))
    · exact .inl rfl
theorem rowL_eq {l : List Fd} (h : rowE l = 0) : rowL l = flatF l := by unfold rowL; rw [if_neg (by simp [h])]
theorem flatF_app (l m : List Fd) : flatF (l ++ m) = flatF l ++ flatF m := by simp [flatF]
theorem kinds_byt {l : List Fd} (hl : ∀ f ∈ l, f.ok) : byt (kindsL l) := fun x hx => by
  obtain ⟨f, hf, rfl⟩ := List.mem_map.1 hx
  exact (hl f hf).k
theorem bytesU_byt (n : Int) (w : Nat) : byt (bytesU n w) := by
  induction w with
  | zero => intro x hx; cases hx
  | succ w ih =>
    intro x hx
    rcases List.mem_cons.1 hx with rfl | hx
    · unfold byteU
      simp [IntKind.wrap, IntKind.signed, IntKind.bits]
      omega
    · exact ih x hx
theorem flatF_byt {l : List Fd} (hl : ∀ f ∈ l, f.ok) : byt (flatF l) := fun x hx => by
  obtain ⟨f, hf, hx⟩ := List.mem_flatMap.1 hx
  unfold oneF at hx
  split at hx
  · exact (hl f hf).d.2 x hx
  · exact bytesU_byt _ _ x hx
end Go.Proofs.YtipmkjfbdflneaaDoor.AM
