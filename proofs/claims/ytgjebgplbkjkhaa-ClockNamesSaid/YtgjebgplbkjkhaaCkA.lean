/- Clocks: what the reference computes. -/
import Derived.Test.YtgjebgplbkjkhaaBaseD
namespace Go.Proofs.Ytgjebgplbkjkhaa.AM
open Go Go.Proofs
set_option maxRecDepth 100000

section
open Go.RowKit
variable {P : Program} {X : Ctx}
def keepB (m : Nat → Nat) (l : List Nat) : List Nat → Bool
  | [] => true
  | i :: r => Nat.beq (m i) i && memN i l && keepB m l r
theorem keepB_spec {m : Nat → Nat} {l : List Nat} : ∀ {r : List Nat}, keepB m l r = true → ∀ i ∈ r, m i = i ∧ i ∈ l
  | [], _, i, hi => by simp at hi
  | j :: r, h, i, hi => by
    simp only [keepB, Bool.and_eq_true] at h
    rcases List.mem_cons.1 hi with rfl | hi
    · exact ⟨Nat.eq_of_beq_eq_true h.1.1, memN_iff.1 h.1.2⟩
    · exact keepB_spec h.2 i hi
theorem keep_m {m : List (Nat × Nat)} {h h' : Heap} (hs : keepB (mapN m) (idsOf h') (idsOf h) = true) : ∀ i, i ∈ idsOf h → mapN m i = i ∧ i ∈ idsOf h' := fun i hi => keepB_spec hs i hi
/-- An empty block, for a variable whose slice is nil yet. -/
theorem LoopJ.putV {md : Md} {n : Nat} {B : Nat → Prop} {base : Nat} {c : Code} {e : Env} {h : Heap} {K : Ex → Env → Heap → Prop} (v id : Nat) (s : Sh) (hid : find h id = none) (hv : find h v = some (.var .nil))
    (hl : LoopJ P X md n B base c e ((v, .var (.own id)) :: (id, .els true s []) :: h) K) : LoopJ P X md n B base c e h K := by
  refine ⟨fun W φ a w hG hs => ?_⟩
  have hne : v ≠ id := fun e => by rw [e, hid] at hv; cases hv
  obtain ⟨g1, g2⟩ := hs.heap.put (id := id) (blk := .els true s []) (pc := none) hid ⟨trivial, trivial, by rw [upd_same]⟩ (fun b c h => by cases h) (fun b c h => by cases h)
  rw [← find_cons] at g1 g2
  have hv' : find ((id, .els true s []) :: h) v = some (.var .nil) := by rw [find_cons, upd_ne _ _ hne]; exact hv
  obtain ⟨_, b, c, cs, T, u, q1, q2, q3, q4⟩ := g1.blk v _ hv'
  obtain ⟨k1, k2⟩ := g1.mod (w' := w) (blk' := .var (.own id)) hv' (by simp) q1 rfl rfl rfl rfl (fun _ _ => rfl) rfl ⟨rfl, b, c, cs, T, u, q1, q2, by
    simp only [Rel] at q3
    subst q3
    simp only [Rel, find_cons, upd_ne _ _ hne.symm, upd_same]
    exact ⟨trivial, trivial⟩, q4⟩
  rw [← find_cons] at k1 k2
  exact (hl.out W _ a w hG ⟨k1, (hs.env.mono g2).mono k2, hs.size, (hs.defers.mono g2).mono k2⟩).mono fun x2 a2 w2 q => (q.ext k2.toB).ext g2.toB
end

abbrev qsh64 : Sh := .int .u64
abbrev qv64 (l : List Int) : List PV := l.map (.i .u64)
abbrev qs64 (l : List Int) : AV := .ro qsh64 (qv64 l)
abbrev iv64 (l : List Int) : List PV := l.map (.i .i64)
abbrev is64 (l : List Int) : AV := .ro (.int .i64) (iv64 l)
theorem qv_app (l m : List Int) : qv64 (l ++ m) = qv64 l ++ qv64 m := by simp
theorem iv_app (l m : List Int) : iv64 (l ++ m) = iv64 l ++ iv64 m := by simp
/-- The greater one. -/
def mx (a b : Int) : Int := if b > a then b else a
def top (now : Int) (l : List Int) : Int := l.foldl mx now
theorem top_snoc (now : Int) (l : List Int) (x : Int) : top now (l ++ [x]) = mx (top now l) x := by simp [top]
theorem top_take {now : Int} {l : List Int} {i : Nat} (h : i < l.length) : top now (l.take (i + 1)) = mx (top now (l.take i)) l[i] := by
  rw [List.take_add_one, List.getElem?_eq_getElem h, Option.toList_some, top_snoc]
theorem f18_ok (a b : Int) : Fn Try.prog X.G 18 [.p (.i .u64 a), .p (.i .u64 b)] (.p (.i .u64 (mx a b))) := by
  refine Fn.intro (I := []) hX hm 0 Try.func18 rfl rfl (by kernel_rfl) rfl ?_
  conv => whnf
  rfl
theorem f15_ok (a b : List Int) (hl : a.length < 1000000) : Fn Try.prog X.G 15 [qs64 a, qs64 b] (.p (.b (decide (a = b)))) := by
  refine Fn.intro (I := []) hX hm 0 Try.func15 rfl rfl (by kernel_rfl) rfl ?_
  conv => whnf
  refine iteC (fun h0 => ?_) (fun h0 => ?_)
  · have h0 : ((a.map (PV.i .u64)).length : Int) ≠ (b.map (PV.i .u64)).length := by simpa using h0
    rw [List.length_map, List.length_map] at h0
    rw [decide_eq_false fun e => h0 (by rw [e])]
    rfl
  have h0 : ((a.map (PV.i .u64)).length : Int) = (b.map (PV.i .u64)).length := by simpa using h0
  rw [List.length_map, List.length_map] at h0
  have hab : a.length = b.length := by omega
  conv => whnf
  refine LoopJ.intro (I := []) (base' := 0) hX hm (by kernel_rfl) (σ := Nat) (fun i => [(0, qs64 a), (1, qs64 b), (5, .p (.i .i64 i))]) (fun _ => []) (fun i => i ≤ a.length ∧ a.take i = b.take i) (fun i => a.length - i) 0 []
    ⟨Nat.zero_le _, rfl⟩ ⟨nofun, rfl, ⟨rfl, rfl, rfl, rfl, rfl, rfl, trivial⟩, trivial⟩ ?_
  intro i ⟨hi, hI⟩
  conv => whnf
  refine iteC (fun h1 => ?_) (fun h1 => ?_)
  · have h1 := of_decide_eq_true h1
    rw [List.length_map] at h1
    have hlt : i < a.length := by omega
    have hlb : i < b.length := by omega
    have hg := getM (f := PV.i .u64) hlt
    have hg2 := getM (f := PV.i .u64) hlb
    conv => whnf
    conv => arg 2; repeat (first | rw [hg] | rw [hg2] | (whnf; arg 2))
    conv => whnf
    conv => arg 2; repeat (first | rw [hg] | rw [hg2] | (whnf; arg 2))
    conv => whnf
    refine iteC (fun h2 => ?_) (fun h2 => ?_)
    · have h2 : a[i] ≠ b[i] := by simpa using h2
      rw [decide_eq_false fun e => h2 (by subst e; rfl)]
      rfl
    · have h2 : a[i] = b[i] := by simpa using h2
      conv => whnf
      refine ⟨i + 1, [], ⟨by omega, ?_⟩, by dsimp only; omega, nofun, rfl, ⟨rfl, rfl, rfl, rfl, incN (by omega), rfl, trivial⟩, trivial⟩
      rw [List.take_add_one, List.take_add_one, hI, List.getElem?_eq_getElem hlt, List.getElem?_eq_getElem hlb, h2]
  · have h1 := of_decide_eq_false h1
    rw [List.length_map] at h1
    have e : a = b := by
      have h2 := List.take_of_length_le (show a.length ≤ i by omega)
      have h3 := List.take_of_length_le (show b.length ≤ i by omega)
      rw [← h2, ← h3, hI]
    rw [decide_eq_true e]
    rfl
theorem f27_ok (a b : List Int) (hl : a.length < 1000000) : Fn Try.prog X.G 27 [is64 a, is64 b] (.p (.b (decide (a = b)))) := by
  refine Fn.intro (I := []) hX hm 0 Try.func27 rfl rfl (by kernel_rfl) rfl ?_
  conv => whnf
  refine iteC (fun h0 => ?_) (fun h0 => ?_)
  · have h0 : ((a.map (PV.i .i64)).length : Int) ≠ (b.map (PV.i .i64)).length := by simpa using h0
    rw [List.length_map, List.length_map] at h0
    rw [decide_eq_false fun e => h0 (by rw [e])]
    rfl
  have h0 : ((a.map (PV.i .i64)).length : Int) = (b.map (PV.i .i64)).length := by simpa using h0
  rw [List.length_map, List.length_map] at h0
  have hab : a.length = b.length := by omega
  conv => whnf
  refine LoopJ.intro (I := []) (base' := 0) hX hm (by kernel_rfl) (σ := Nat) (fun i => [(0, is64 a), (1, is64 b), (5, .p (.i .i64 i))]) (fun _ => []) (fun i => i ≤ a.length ∧ a.take i = b.take i) (fun i => a.length - i) 0 []
    ⟨Nat.zero_le _, rfl⟩ ⟨nofun, rfl, ⟨rfl, rfl, rfl, rfl, rfl, rfl, trivial⟩, trivial⟩ ?_
  intro i ⟨hi, hI⟩
  conv => whnf
  refine iteC (fun h1 => ?_) (fun h1 => ?_)
  · have h1 := of_decide_eq_true h1
    rw [List.length_map] at h1
    have hlt : i < a.length := by omega
    have hlb : i < b.length := by omega
    have hg := getM (f := PV.i .i64) hlt
    have hg2 := getM (f := PV.i .i64) hlb
    conv => whnf
    conv => arg 2; repeat (first | rw [hg] | rw [hg2] | (whnf; arg 2))
    conv => whnf
    conv => arg 2; repeat (first | rw [hg] | rw [hg2] | (whnf; arg 2))
    conv => whnf
    refine iteC (fun h2 => ?_) (fun h2 => ?_)
    · have h2 : a[i] ≠ b[i] := by simpa using h2
      rw [decide_eq_false fun e => h2 (by subst e; rfl)]
      rfl
    · have h2 : a[i] = b[i] := by simpa using h2
      conv => whnf
      refine ⟨i + 1, [], ⟨by omega, ?_⟩, by dsimp only; omega, nofun, rfl, ⟨rfl, rfl, rfl, rfl, incN (by omega), rfl, trivial⟩, trivial⟩
      rw [List.take_add_one, List.take_add_one, hI, List.getElem?_eq_getElem hlt, List.getElem?_eq_getElem hlb, h2]
  · have h1 := of_decide_eq_false h1
    rw [List.length_map] at h1
    have e : a = b := by
      have h2 := List.take_of_length_le (show a.length ≤ i by omega)
      have h3 := List.take_of_length_le (show b.length ≤ i by omega)
      rw [← h2, ← h3, hI]
    rw [decide_eq_true e]
    rfl
/-- Clamped ticks: where the clock stands behind each of the first readings. -/
def clampL (now : Int) (l : List Int) : Nat → List Int
  | 0 => []
  | n + 1 => clampL now l n ++ [top now (l.take (n + 1))]
theorem clampL_len (now : Int) (l : List Int) (n : Nat) : (clampL now l n).length = n := by
  induction n with
  | zero => rfl
  | succ n ih => simp [clampL, ih]
/-- What goes back, of the first readings. -/
def backL (now : Int) (l : List Int) : Nat → List Int
  | 0 => []
  | n + 1 => match decide (l.getD n 0 < top now (l.take n)) with
    | true => backL now l n ++ [(n : Int)]
    | false => backL now l n
theorem backL_len (now : Int) (l : List Int) (n : Nat) : (backL now l n).length ≤ n := by
  induction n with
  | zero => simp [backL]
  | succ n ih =>
    simp only [backL]
    split
    · simp; omega
    · omega
def clampR (now : Int) (l : List Int) : List Int := if 200 < l.length then [] else clampL now l l.length
def backR (now : Int) (l : List Int) : List Int := if 200 < l.length then [] else backL now l l.length
def manyE (l : List Int) : Int := if 200 < l.length then 4 else 0
def longB (l : List Int) : Bool := (decide (40 < l.length) && decide (l.length ≤ 200)) || decide (300 < l.length)
theorem f8_ok (l : List Int) : Fn Try.prog X.G 8 [qs64 l] (.p (.b (longB l))) := by
  refine Fn.intro (I := []) hX hm 0 Try.func8 rfl rfl (by kernel_rfl) rfl ?_
  have q1 : decide (((qv64 l).length : Int) > 40) = decide (40 < l.length) := by rw [List.length_map]; exact decide_eq_decide.2 (by omega)
  have q2 : decide (((qv64 l).length : Int) ≤ 200) = decide (l.length ≤ 200) := by rw [List.length_map]; exact decide_eq_decide.2 (by omega)
  have q3 : decide (((qv64 l).length : Int) > 300) = decide (300 < l.length) := by rw [List.length_map]; exact decide_eq_decide.2 (by omega)
  unfold longB
  generalize decide (40 < l.length) = b1 at *
  generalize decide (l.length ≤ 200) = b2 at *
  generalize decide (300 < l.length) = b3 at *
  cases b1 <;> cases b2 <;> cases b3
  all_goals
    repeat' (conv => whnf
             first
              | refine iteT q1 ?_
              | refine iteF q1 ?_
              | refine iteT q2 ?_
              | refine iteF q2 ?_
              | refine iteT q3 ?_
              | refine iteF q3 ?_)
  all_goals rfl
end Go.Proofs.Ytgjebgplbkjkhaa.AM
