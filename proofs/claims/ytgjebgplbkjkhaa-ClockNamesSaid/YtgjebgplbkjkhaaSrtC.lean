/- The library's sort: insertion. -/
import Derived.Test.YtgjebgplbkjkhaaSrtB
namespace Go.Proofs.Ytgjebgplbkjkhaa.AM
open Go Go.Proofs Go.Sort
set_option maxRecDepth 100000

structure StI where
  i : Nat
  d : Array Int
  h : Heap
theorem insInner_size (a : Nat) : ∀ (j : Nat) (d : Array Int), (insInner ltInt a j d).size = d.size
  | 0, d => rfl
  | j + 1, d => by
    unfold insInner
    split
    · rw [insInner_size a j, size_swp]
    · rfl
theorem insInner_go {a j : Nat} {d : Array Int} (h : a < j) (hl : ltInt d[j]! d[j - 1]! = true) : insInner ltInt a j d = insInner ltInt a (j - 1) (swp d j (j - 1)) := by
  obtain ⟨k, rfl⟩ : ∃ k, j = k + 1 := ⟨j - 1, by omega⟩
  rw [Nat.add_sub_cancel] at *
  rw [insInner, if_pos (by simp [hl]; omega)]
theorem insInner_le {a j : Nat} {d : Array Int} (h : ¬ a < j) : insInner ltInt a j d = d := by
  cases j with
  | zero => rfl
  | succ j => rw [insInner, if_neg (by simp; omega)]
theorem insInner_stop {a j : Nat} {d : Array Int} (hl : ltInt d[j]! d[j - 1]! = false) : insInner ltInt a j d = d := by
  cases j with
  | zero => rfl
  | succ j => rw [Nat.add_sub_cancel] at hl; rw [insInner, if_neg (by simp [hl])]
theorem insOuter_go {a b i : Nat} {d : Array Int} (h : i < b) : insOuter ltInt a b i d = insOuter ltInt a b (i + 1) (insInner ltInt a i d) := by rw [insOuter, if_pos h]
theorem insOuter_stop {a b i : Nat} {d : Array Int} (h : ¬ i < b) : insOuter ltInt a b i d = d := by rw [insOuter, if_neg h]

set_option maxHeartbeats 4000000 in
theorem f34_ok (h0 : Heap) (d : Array Int) (a b : Nat) (hb : b ≤ d.size) (hs : d.size < 1000000) (ha : a < 1000000) (K : AV → Heap → Prop)
    (hK : ∀ h1, Ext 208 h0 h1 → K (.tup []) ((208, qb (insertionSort ltInt d a b)) :: h1)) :
    InlS Try.prog X 34 [.own 208, .p (.i .i64 a), .p (.i .i64 b)] ((208, qb d) :: h0) K := by
  refine InlS.intro (I := []) hX hm 1000 Try.func34 rfl rfl (by kernel_rfl) rfl ?_
  conv => whnf
  refine LoopJ.introT (I := []) (base' := 1000) hX hm (by kernel_rfl) (σ := StI) (fun s => [(0, .own 208), (1, .p (.i .i64 a)), (2, .p (.i .i64 b)), (6, .p (.i .i64 s.i))]) (fun s => (208, qb s.d) :: s.h)
    (fun s => a + 1 ≤ s.i ∧ s.i ≤ max b (a + 1) ∧ s.d.size = d.size ∧ Ext 208 h0 s.h ∧ insOuter ltInt a b s.i s.d = insertionSort ltInt d a b) (fun s => b - s.i) ⟨a + 1, d, h0⟩
    ⟨Nat.le_refl _, by dsimp only; omega, rfl, Ext.refl _ _, rfl⟩ rfl ⟨rfl, rfl, rfl, incN (by omega), trivial⟩ ?_
  intro s ⟨hi1, hi2, hsz, hE, hO⟩
  conv => whnf
  refine iteC (fun h1 => ?_) (fun h1 => ?_)
  · have h1 := of_decide_eq_true h1
    have hib : s.i < b := by omega
    have hO2 := hO
    rw [insOuter_go hib] at hO2
    conv => whnf
    refine LoopJ.introT (I := []) (base' := 1000) hX hm (by kernel_rfl) (σ := StI) (fun u => [(0, .own 208), (1, .p (.i .i64 a)), (2, .p (.i .i64 b)), (6, .p (.i .i64 s.i)), (7, .p (.i .i64 u.i))]) (fun u => (208, qb u.d) :: u.h)
      (fun u => u.i ≤ s.i ∧ u.d.size = d.size ∧ Ext 208 h0 u.h ∧ insInner ltInt a u.i u.d = insInner ltInt a s.i s.d) (fun u => u.i) ⟨s.i, s.d, s.h⟩
      ⟨Nat.le_refl _, hsz, hE, rfl⟩ rfl ⟨rfl, rfl, rfl, rfl, rfl, trivial⟩ ?_
    intro u ⟨hu, hus, huE, hI⟩
    conv => whnf
    refine iteC (fun h2 => ?_) (fun h2 => ?_)
    · have h2 := of_decide_eq_true h2
      have haj : a < u.i := by omega
      have e1 : IntKind.i64.wrap ((u.i : Int) - 1) = ((u.i - 1 : Nat) : Int) := by rw [wr_i64 (by omega) (by omega)]; omega
      have g1 := gQ (d := u.d) (i := u.i) (by omega) (e := (u.i : Int)) rfl
      have g2 := gQ (d := u.d) (i := u.i - 1) (by omega) e1
      have c1 := f28_ok u.d[u.i]! u.d[u.i - 1]!
      have n1 := gN (d := u.d) (i := u.i) (by omega) (e := (u.i : Int).toNat) (by omega)
      have n2 := gN (d := u.d) (i := u.i - 1) (by omega) (e := (IntKind.i64.wrap ((u.i : Int) - 1)).toNat) (by rw [e1]; omega)
      conv => whnf
      repeat (conv => arg 2; repeat (first | rw [g1] | rw [g2] | rw [n1] | rw [n2] | (whnf; arg 2))
              conv => whnf)
      refine ⟨_, c1, ?_⟩
      conv => whnf
      refine iteC (fun h3 => ?_) (fun h3 => ?_)
      · rw [insInner_go haj h3] at hI
        have t1 : (u.i : Int).toNat = u.i := rfl
        have t2 : (IntKind.i64.wrap ((u.i : Int) - 1)).toNat = u.i - 1 := by rw [e1]; rfl
        have g3 := gS (d := u.d) (i := u.i - 1) (k := u.i) (x := u.d[u.i - 1]!) t1 (by omega) e1
        have n3 := nS (d := u.d) (i := u.i - 1) (k := u.i) (x := u.d[u.i - 1]!) t1 (by omega) t2
        conv => whnf
        repeat (conv => arg 2; repeat (first | rw [g1] | rw [g2] | rw [n1] | rw [n2] | rw [g3] | rw [n3] | (whnf; arg 2))
                conv => whnf)
        refine ⟨⟨u.i - 1, swp u.d u.i (u.i - 1), _⟩, ⟨by dsimp only; omega, by rw [size_swp]; exact hus, huE.cons.cons, hI⟩, by dsimp only; omega, heapQ (swpZ t1 t2 rfl rfl), ⟨rfl, rfl, rfl, rfl, congrArg (fun x => AV.p (.i .i64 x)) e1, trivial⟩⟩
      · rw [insInner_stop h3] at hI
        conv => whnf
        refine ⟨⟨s.i + 1, u.d, u.h⟩, ⟨by dsimp only; omega, by dsimp only; omega, hus, huE, by rw [hI]; exact hO2⟩, by dsimp only; omega, rfl, ⟨rfl, rfl, rfl, incN (by omega), trivial⟩⟩
    · have h2 := of_decide_eq_false h2
      rw [insInner_le (by omega)] at hI
      conv => whnf
      refine ⟨⟨s.i + 1, u.d, u.h⟩, ⟨by dsimp only; omega, by dsimp only; omega, hus, huE, by rw [hI]; exact hO2⟩, by dsimp only; omega, rfl, ⟨rfl, rfl, rfl, incN (by omega), trivial⟩⟩
  · have h1 := of_decide_eq_false h1
    rw [insOuter_stop (by omega)] at hO
    have hk := hK s.h hE
    rw [← hO] at hk
    exact hk
end Go.Proofs.Ytgjebgplbkjkhaa.AM
