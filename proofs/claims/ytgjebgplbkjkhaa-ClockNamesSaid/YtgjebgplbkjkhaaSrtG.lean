/- The library's sort: the pivot. -/
import Derived.Test.YtgjebgplbkjkhaaSrtF
namespace Go.Proofs.Ytgjebgplbkjkhaa.AM
open Go Go.Proofs Go.Sort
set_option maxRecDepth 100000

/-- The slice as those see it that only read. -/
abbrev qr (d : Array Int) : AV := .ro qsh64 (qv64 d.toList)
abbrev sv (s : Nat) : Blk := .var (.p (.i .i64 ((s : Nat) : Int)))
theorem order2_lt {d : Array Int} {a b s n : Nat} (ha : a < n) (hb : b < n) : (order2 ltInt d a b s).1 < n ∧ (order2 ltInt d a b s).2.1 < n := by
  rcases order2_mem ltInt d a b s with ⟨h1, h2⟩ | ⟨h1, h2⟩ <;> rw [h1, h2]
  · exact ⟨ha, hb⟩
  · exact ⟨hb, ha⟩
theorem median_lt {d : Array Int} {a b c s n : Nat} (ha : a < n) (hb : b < n) (hc : c < n) : (median ltInt d a b c s).1 < n := by
  rcases median_mem ltInt d a b c s with h | h | h <;> rw [h] <;> assumption
set_option maxHeartbeats 4000000 in
theorem f49_ok (h0 : Heap) (d : Array Int) (a b s : Nat) {xa xb : Int} (ea : xa = (a : Int)) (eb : xb = (b : Int)) (ha : a < d.size) (hb : b < d.size) (hs : s < 1000) (K : AV → Heap → Prop)
    (hK : ∀ h1, K (.tup [.p (.i .i64 (((order2 ltInt d a b s).1 : Nat) : Int)), .p (.i .i64 (((order2 ltInt d a b s).2.1 : Nat) : Int))]) ((72, sv ((order2 ltInt d a b s).2.2)) :: h1)) : InlS Try.prog X 49 [qr d, .p (.i .i64 xa), .p (.i .i64 xb), .ptr 72 []] ((72, sv s) :: h0) K := by
  subst ea eb
  refine InlS.intro (I := []) hX hm 1000 Try.func49 rfl rfl (by kernel_rfl) rfl ?_
  have g1 := gQ (d := d) (i := b) hb (e := (b : Int)) rfl
  have g2 := gQ (d := d) (i := a) ha (e := (a : Int)) rfl
  have c1 := f28_ok d[b]! d[a]!
  conv => whnf
  iterate 3 (try (conv => arg 2; repeat (first | rw [g1] | rw [g2] | (whnf; arg 2))
                  conv => whnf))
  refine ⟨_, c1, ?_⟩
  conv => whnf
  refine iteC (fun h => ?_) (fun h => ?_)
  · have hO : order2 ltInt d a b s = (b, a, s + 1) := by unfold order2; rw [if_pos h]
    rw [hO] at hK
    conv => whnf
    refine KCast (show (((72 : Nat), Blk.var (.p (.i .i64 (IntKind.i64.wrap ((s : Int) + 1))))) :: _ : Heap) = (72, sv (s + 1)) :: _ from by rw [incI (by omega)]) ?_
    exact hK _
  · have hO : order2 ltInt d a b s = (a, b, s) := by unfold order2; rw [if_neg (by rw [h]; exact Bool.false_ne_true)]
    rw [hO] at hK
    conv => whnf
    exact hK _
set_option maxHeartbeats 4000000 in
theorem f48_ok (h0 : Heap) (d : Array Int) (a b c s : Nat) {xa xb xc : Int} (ea : xa = (a : Int)) (eb : xb = (b : Int)) (ec : xc = (c : Int)) (ha : a < d.size) (hb : b < d.size) (hc : c < d.size) (hs : s < 900) (K : AV → Heap → Prop)
    (hK : ∀ h1, K (.p (.i .i64 (((median ltInt d a b c s).1 : Nat) : Int))) ((72, sv ((median ltInt d a b c s).2)) :: h1)) : InlS Try.prog X 48 [qr d, .p (.i .i64 xa), .p (.i .i64 xb), .p (.i .i64 xc), .ptr 72 []] ((72, sv s) :: h0) K := by
  subst ea eb ec
  refine InlS.intro (I := [ 49 ]) hX hm 1000 Try.func48 rfl rfl (by kernel_rfl) rfl ?_
  obtain ⟨r1, e1⟩ : ∃ r, r = order2 ltInt d a b s := ⟨_, rfl⟩
  have l1 := order2_lt (d := d) (s := s) ha hb
  have n1 := order2_count ltInt d a b s
  obtain ⟨r2, e2⟩ : ∃ r, r = order2 ltInt d r1.2.1 c r1.2.2 := ⟨_, rfl⟩
  rw [← e1] at l1 n1
  have l2 := order2_lt (d := d) (s := r1.2.2) l1.2 hc
  have n2 := order2_count ltInt d r1.2.1 c r1.2.2
  rw [← e2] at l2 n2
  have hM : median ltInt d a b c s = ((order2 ltInt d r1.1 r2.1 r2.2.2).2.1, (order2 ltInt d r1.1 r2.1 r2.2.2).2.2) := by subst e2 e1; rfl
  rw [hM] at hK
  conv => whnf
  refine f49_ok _ d a b s rfl rfl ha hb (by omega) _ (fun h1 => ?_)
  rw [← e1]
  conv => whnf
  refine f49_ok _ d r1.2.1 c r1.2.2 rfl rfl l1.2 hc (by omega) _ (fun h2 => ?_)
  rw [← e2]
  conv => whnf
  refine f49_ok _ d r1.1 r2.1 r2.2.2 rfl rfl l1.1 l2.1 (by omega) _ (fun h3 => ?_)
  conv => whnf
  exact hK _
set_option maxHeartbeats 4000000 in
theorem f47_ok (h0 : Heap) (d : Array Int) (a s : Nat) {xa : Int} (ea : xa = (a : Int)) (h1a : 1 ≤ a) (ha : a + 1 < d.size) (hz : d.size < 1000000) (hs : s < 900) (K : AV → Heap → Prop)
    (hK : ∀ h1, K (.p (.i .i64 (((medianAdjacent ltInt d a s).1 : Nat) : Int))) ((72, sv ((medianAdjacent ltInt d a s).2)) :: h1)) : InlS Try.prog X 47 [qr d, .p (.i .i64 xa), .ptr 72 []] ((72, sv s) :: h0) K := by
  subst ea
  refine InlS.intro (I := [ 48 ]) hX hm 1000 Try.func47 rfl rfl (by kernel_rfl) rfl ?_
  conv => whnf
  refine f48_ok _ d (a - 1) a (a + 1) s (decI (by omega) (by omega)) rfl (incI (by omega)) (by omega) (by omega) (by omega) hs _ (fun h1 => ?_)
  conv => whnf
  exact hK _
set_option maxHeartbeats 8000000 in
theorem f37_ok (d : Array Int) (a b : Nat) (hab : a + 12 < b) (hb : b ≤ d.size) (hs : d.size < 1000000) :
    Fn Try.prog X.G 37 [qr d, .p (.i .i64 a), .p (.i .i64 b)] (.tup [.p (.i .i64 (((choosePivot ltInt d a b).1 : Nat) : Int)), .p (.i .i64 (hintCode (choosePivot ltInt d a b).2))]) := by
  refine Fn.intro (I := [ 48, 47 ]) hX hm 0 Try.func37 rfl rfl (by kernel_rfl) rfl ?_
  have eL : IntKind.i64.wrap ((b : Int) - (a : Int)) = ((b - a : Nat) : Int) := by rw [wr_i64 (by omega) (by omega)]; omega
  have e1 : IntKind.i64.wrap ((a : Int) + IntKind.i64.wrap (IntKind.i64.wrap ((IntKind.i64.wrap ((b : Int) - (a : Int))).tdiv 4) * 1)) = ((a + (b - a) / 4 * 1 : Nat) : Int) := by
    rw [eL, show (((b - a : Nat) : Int)).tdiv 4 = (((b - a) / 4 : Nat) : Int) from by rw [Int.tdiv_eq_ediv_of_nonneg (by omega)]; omega, wr_i64 (n := (((b - a) / 4 : Nat) : Int)) (by omega) (by omega), wr_i64 (n := (((b - a) / 4 : Nat) : Int) * 1) (by omega) (by omega), wr_i64 (by omega) (by omega)]
    omega
  have e2 : IntKind.i64.wrap ((a : Int) + IntKind.i64.wrap (IntKind.i64.wrap ((IntKind.i64.wrap ((b : Int) - (a : Int))).tdiv 4) * 2)) = ((a + (b - a) / 4 * 2 : Nat) : Int) := by
    rw [eL, show (((b - a : Nat) : Int)).tdiv 4 = (((b - a) / 4 : Nat) : Int) from by rw [Int.tdiv_eq_ediv_of_nonneg (by omega)]; omega, wr_i64 (n := (((b - a) / 4 : Nat) : Int)) (by omega) (by omega), wr_i64 (n := (((b - a) / 4 : Nat) : Int) * 2) (by omega) (by omega), wr_i64 (by omega) (by omega)]
    omega
  have e3 : IntKind.i64.wrap ((a : Int) + IntKind.i64.wrap (IntKind.i64.wrap ((IntKind.i64.wrap ((b : Int) - (a : Int))).tdiv 4) * 3)) = ((a + (b - a) / 4 * 3 : Nat) : Int) := by
    rw [eL, show (((b - a : Nat) : Int)).tdiv 4 = (((b - a) / 4 : Nat) : Int) from by rw [Int.tdiv_eq_ediv_of_nonneg (by omega)]; omega, wr_i64 (n := (((b - a) / 4 : Nat) : Int)) (by omega) (by omega), wr_i64 (n := (((b - a) / 4 : Nat) : Int) * 3) (by omega) (by omega), wr_i64 (by omega) (by omega)]
    omega
  rw [choosePivot_eq]
  conv => whnf
  refine iteT (decide_eq_true (by rw [eL]; omega)) ?_
  conv => whnf
  refine iteC (fun h => ?_) (fun h => ?_)
  · have h := of_decide_eq_true h
    have h2 : b - a ≥ 50 := by rw [eL] at h; omega
    obtain ⟨r1, q1⟩ : ∃ r, r = medianAdjacent ltInt d (a + (b - a) / 4 * 1) 0 := ⟨_, rfl⟩
    have m1 := medianAdjacent_mem ltInt d (a + (b - a) / 4 * 1) 0
    have n1 := medianAdjacent_count ltInt d (a + (b - a) / 4 * 1) 0
    rw [← q1] at m1 n1
    obtain ⟨r2, q2⟩ : ∃ r, r = medianAdjacent ltInt d (a + (b - a) / 4 * 2) r1.2 := ⟨_, rfl⟩
    have m2 := medianAdjacent_mem ltInt d (a + (b - a) / 4 * 2) r1.2
    have n2 := medianAdjacent_count ltInt d (a + (b - a) / 4 * 2) r1.2
    rw [← q2] at m2 n2
    obtain ⟨r3, q3⟩ : ∃ r, r = medianAdjacent ltInt d (a + (b - a) / 4 * 3) r2.2 := ⟨_, rfl⟩
    have m3 := medianAdjacent_mem ltInt d (a + (b - a) / 4 * 3) r2.2
    have n3 := medianAdjacent_count ltInt d (a + (b - a) / 4 * 3) r2.2
    rw [← q3] at m3 n3
    have hr : rawPivot ltInt d a b = median ltInt d r1.1 r2.1 r3.1 r3.2 := by
      subst q3 q2 q1
      unfold rawPivot
      rw [if_pos (by omega), if_pos h2]
    conv => whnf
    refine f47_ok _ d (a + (b - a) / 4 * 1) 0 e1 (by omega) (by omega) hs (by omega) _ (fun h1 => ?_)
    rw [← q1]
    conv => whnf
    refine f47_ok _ d (a + (b - a) / 4 * 2) r1.2 e2 (by omega) (by omega) hs (by omega) _ (fun h2 => ?_)
    rw [← q2]
    conv => whnf
    refine f47_ok _ d (a + (b - a) / 4 * 3) r2.2 e3 (by omega) (by omega) hs (by omega) _ (fun h3 => ?_)
    rw [← q3]
    conv => whnf
    refine f48_ok _ d r1.1 r2.1 r3.1 r3.2 rfl rfl rfl (by omega) (by omega) (by omega) (by omega) _ (fun h4 => ?_)
    rw [← hr]
    conv => whnf
    generalize hq : rawPivot ltInt d a b = q at *
    by_cases z0 : q.2 = 0
    · refine iteT (by rw [z0]; rfl) ?_
      rw [show hintOf q.2 = .increasing from by unfold hintOf; rw [if_pos z0]]
      rfl
    · conv => whnf
      refine iteF (by simpa using z0) ?_
      conv => whnf
      by_cases z1 : q.2 = 12
      · refine iteT (by rw [z1]; rfl) ?_
        rw [show hintOf q.2 = .decreasing from by unfold hintOf; rw [if_neg z0, if_pos z1]]
        rfl
      · refine iteF (by simp; omega) ?_
        rw [show hintOf q.2 = .unknown from by unfold hintOf; rw [if_neg z0, if_neg z1]]
        rfl
  · have h := of_decide_eq_false h
    have h2 : ¬ b - a ≥ 50 := by rw [eL] at h; omega
    have hr : rawPivot ltInt d a b = median ltInt d (a + (b - a) / 4 * 1) (a + (b - a) / 4 * 2) (a + (b - a) / 4 * 3) 0 := by
      unfold rawPivot
      rw [if_pos (by omega), if_neg h2]
    conv => whnf
    refine f48_ok _ d (a + (b - a) / 4 * 1) (a + (b - a) / 4 * 2) (a + (b - a) / 4 * 3) 0 e1 e2 e3 (by omega) (by omega) (by omega) (by omega) _ (fun h4 => ?_)
    rw [← hr]
    conv => whnf
    generalize hq : rawPivot ltInt d a b = q at *
    by_cases z0 : q.2 = 0
    · refine iteT (by rw [z0]; rfl) ?_
      rw [show hintOf q.2 = .increasing from by unfold hintOf; rw [if_pos z0]]
      rfl
    · conv => whnf
      refine iteF (by simpa using z0) ?_
      conv => whnf
      by_cases z1 : q.2 = 12
      · refine iteT (by rw [z1]; rfl) ?_
        rw [show hintOf q.2 = .decreasing from by unfold hintOf; rw [if_neg z0, if_pos z1]]
        rfl
      · refine iteF (by simp; omega) ?_
        rw [show hintOf q.2 = .unknown from by unfold hintOf; rw [if_neg z0, if_neg z1]]
        rfl
end Go.Proofs.Ytgjebgplbkjkhaa.AM
