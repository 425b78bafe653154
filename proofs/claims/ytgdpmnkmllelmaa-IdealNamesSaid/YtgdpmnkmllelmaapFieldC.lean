/- Ported by name: FieldC. -/
import Derived.Test.YtgdpmnkmllelmaapFieldB
namespace Go.Proofs.Ytgdpmnkmllelmaa.AM
open Go Go.Proofs
set_option maxRecDepth 100000
def idxI {α : Type} (p : α → Bool) (l : List α) : Int :=
  match l.findIdx? p with
  | some i => i
  | none => -1
theorem idx_at {α : Type} {p : α → Bool} {l : List α} {i : Nat} (h : i < l.length) (hb : ∀ j (hj : j < l.length), j < i → p l[j] = false) (hp : p l[i] = true) : l.findIdx? p = some i := by
  rw [List.findIdx?_eq_some_iff_getElem]
  exact ⟨h, hp, fun j hj => by simp [hb j (by omega) hj]⟩
theorem idx_none {α : Type} {p : α → Bool} {l : List α} (hb : ∀ j (hj : j < l.length), p l[j] = false) : l.findIdx? p = none := by
  rw [List.findIdx?_eq_none_iff]
  intro x hx
  obtain ⟨j, hj, rfl⟩ := List.mem_iff_getElem.1 hx
  exact hb j hj
theorem idxI_any {α : Type} (p : α → Bool) (l : List α) : decide (idxI p l ≥ 0) = l.any p := by
  unfold idxI
  cases h : l.findIdx? p with
  | none =>
    rw [List.findIdx?_eq_none_iff] at h
    have : l.any p = false := by simpa using h
    rw [this]; rfl
  | some i =>
    rw [List.findIdx?_eq_some_iff_getElem] at h
    obtain ⟨h1, h2, _⟩ := h
    have : l.any p = true := List.any_eq_true.2 ⟨l[i], List.getElem_mem h1, h2⟩
    rw [this]
    simp
theorem f109_ok (p : Fd → Bool) (l : List Fd) (f : Nat) (hl : l.length < 9223372036854775807)
    (hf : ∀ r ∈ l, Fn Try.prog X.G f [.p (fv r)] (.p (.b (p r)))) : Fn Try.prog X.G 109 [fvs l, .fn f []] (.p (.i .i64 (idxI p l))) := by
  refine Fn.intro (I := []) hX hm 0 Try.func109 rfl rfl (by kernel_rfl) rfl ?_
  conv => whnf
  refine LoopJ.intro (I := []) (base' := 0) hX hm (by kernel_rfl) (σ := Nat) (fun i => [(0, fvs l), (1, .fn f []), (7, .p (.i .i64 l.length)), (8, .p (.i .i64 i))]) (fun _ => []) (fun i => i ≤ l.length ∧ ∀ j (hj : j < l.length), j < i → p l[j] = false) (fun i => l.length - i) 0 []
    ⟨Nat.zero_le _, by intro j _ h; omega⟩ ⟨nofun, rfl, ⟨rfl, rfl, rfl, rfl, ?_, rfl, rfl, rfl, trivial⟩, trivial⟩ ?_
  · show AV.p (.i .i64 ((l.map (fv)).length : Int)) = .p (.i .i64 l.length)
    rw [List.length_map]
  intro i hi
  conv => whnf
  refine iteC (fun h1 => ?_) (fun h1 => ?_)
  · have h1 := of_decide_eq_true h1
    have hlt : i < l.length := by omega
    have hg := getM (f := fv) hlt
    conv => whnf
    conv => arg 2; repeat (first | rw [hg] | (whnf; arg 2))
    conv => whnf
    refine ⟨_, hf l[i] (List.getElem_mem hlt), ?_⟩
    conv => whnf
    refine iteC (fun h2 => ?_) (fun h2 => ?_)
    · conv => whnf
      have : idxI p l = i := by unfold idxI; rw [idx_at hlt hi.2 h2]
      rw [this]
      rfl
    · conv => whnf
      refine ⟨i + 1, [], ⟨by omega, fun j hj hji => ?_⟩, by dsimp only; omega, nofun, rfl, ⟨rfl, rfl, rfl, rfl, rfl, rfl, incN (by omega), rfl, trivial⟩, trivial⟩
      by_cases hj2 : j = i
      · subst hj2; exact h2
      · exact hi.2 j hj (by omega)
  · have h1 := of_decide_eq_false h1
    conv => whnf
    have : idxI p l = -1 := by unfold idxI; rw [idx_none fun j hj => hi.2 j hj (by omega)]
    rw [this]
    rfl
theorem f99_ok (p : Fd → Bool) (l : List Fd) (f : Nat) (hl : l.length < 9223372036854775807)
    (hf : ∀ r ∈ l, Fn Try.prog X.G f [.p (fv r)] (.p (.b (p r)))) : Fn Try.prog X.G 99 [fvs l, .fn f []] (.p (.b (l.any p))) := by
  refine Fn.intro (I := []) hX hm 0 Try.func99 rfl rfl (by kernel_rfl) rfl ?_
  conv => whnf
  refine ⟨_, f109_ok p l f hl hf, ?_⟩
  have := idxI_any p l
  conv => whnf
  refine iteC (fun h => ?_) (fun h => ?_)
  all_goals (rw [← this, h]; rfl)
theorem f100_ok (f : Fd) (hf : f.ok) : Fn Try.prog X.G 100 [.p (fv f)] (.p (.b (badF f))) := by
  refine Fn.intro (I := []) hX hm 0 Try.func100 rfl rfl (by kernel_rfl) rfl ?_
  have c := f101_ok f hf
  have e : (chkF f != 0) = badF f := by unfold chkF; cases badF f <;> rfl
  conv => whnf
  refine ⟨_, c, ?_⟩
  conv => whnf
  refine iteC (fun h => ?_) (fun h => ?_)
  all_goals (rw [← e, h]; rfl)
def rowE (l : List Fd) : Int := if l.length > 40 then 4 else if l.any badF = true then 8 else 0
def oneF (f : Fd) : List Int := if f.k = 6 then f.d else bytesU f.n (widK f.k).toNat
theorem oneF_len {f : Fd} (hd : f.d.length = 32) : (oneF f).length ≤ 32 := by
  unfold oneF
  split
  · omega
  · rw [bytesU_length]; exact widK_le _
def flatF (l : List Fd) : List Int := l.flatMap oneF
theorem flatF_len {l : List Fd} (hl : ∀ f ∈ l, f.d.length = 32) : (flatF l).length ≤ 32 * l.length := by
  induction l with
  | nil => simp [flatF]
  | cons f l ih =>
    have := oneF_len (hl f (by simp))
    have := ih fun g hg => hl g (by simp [hg])
    simp only [flatF, List.flatMap_cons, List.length_append, List.length_cons] at *
    omega
theorem flatF_step {l : List Fd} {i : Nat} (h : i < l.length) : flatF (l.take (i + 1)) = flatF (l.take i) ++ oneF l[i] := by
  unfold flatF
  rw [List.take_add_one, List.flatMap_append]
  simp [h]
def rowL (l : List Fd) : List Int := if rowE l ≠ 0 then [] else flatF l
theorem rowE_len {l : List Fd} (h : rowE l = 0) : l.length ≤ 40 := by
  unfold rowE at h
  split at h
  · cases h
  · omega
theorem f84_ok (l : List Fd) (hl : ∀ f ∈ l, f.ok) (hll : l.length < 9223372036854775807) : Fn Try.prog X.G 84 [fvs l] (.tup [bvs (rowL l), .p (.i .i64 (rowE l))]) := by
  refine Fn.intro (I := []) hX hm 0 Try.func84 rfl rfl (by kernel_rfl) rfl ?_
  conv => whnf
  refine iteC (fun h => ?_) (fun h => ?_)
  · have h := of_decide_eq_true h
    rw [List.length_map] at h
    have e : rowE l = 4 := by unfold rowE; rw [if_pos (by omega)]
    rw [show rowL l = [] from by unfold rowL; rw [if_pos (by rw [e]; decide)], e]
    rfl
  have h := of_decide_eq_false h
  rw [List.length_map] at h
  conv => whnf
  refine ⟨_, f99_ok badF l 100 hll fun f hf => f100_ok f (hl f hf), ?_⟩
  conv => whnf
  refine iteC (fun h2 => ?_) (fun h2 => ?_)
  · have e : rowE l = 8 := by unfold rowE; rw [if_neg (by omega), if_pos h2]
    rw [show rowL l = [] from by unfold rowL; rw [if_pos (by rw [e]; decide)], e]
    rfl
  have e : rowE l = 0 := by unfold rowE; rw [if_neg (by omega), if_neg (by simp [h2])]
  rw [show rowL l = flatF l from by unfold rowL; rw [if_neg (by simp [e])], e]
  conv => whnf
  refine LoopJ.nil 4 1000 ush rfl rfl ?_
  refine LoopJ.intro (I := []) (base' := 0) hX hm (by kernel_rfl) (σ := Nat) (fun i => [(4, .own 1000), (13, fvs l), (14, .p (.i .i64 l.length)), (15, .p (.i .i64 i))]) (fun i => [(1000, .els true ush (bv (flatF (l.take i))))]) (fun i => i ≤ l.length) (fun i => l.length - i) 0 []
    (Nat.zero_le _) ⟨nofun, rfl, ⟨rfl, rfl, rfl, rfl, ?_, rfl, rfl, rfl, trivial⟩, ⟨rfl, rfl, trivial⟩⟩ ?_
  · show AV.p (.i .i64 ((l.map fv).length : Int)) = .p (.i .i64 l.length)
    rw [List.length_map]
  intro i hi
  conv => whnf
  refine iteC (fun h1 => ?_) (fun h1 => ?_)
  · have h1 := of_decide_eq_true h1
    have hlt : i < l.length := by omega
    have hg := getM (f := fv) hlt
    have ho := hl _ (List.getElem_mem hlt)
    have hfl := flatF_len (l := l.take i) fun f hf => (hl f (List.mem_of_mem_take hf)).d.1
    have hon := oneF_len ho.d.1
    have hst := flatF_step hlt
    rw [List.length_take] at hfl
    generalize hacc : flatF (l.take i) = acc at *
    generalize hfi : l[i] = f at *
    have hd := ho.d.1
    conv => whnf
    conv => arg 2; repeat (first | rw [hg] | (whnf; arg 2))
    conv => whnf
    refine iteC (fun h3 => ?_) (fun h3 => ?_)
    · have h3 : f.k = 6 := by simpa using h3
      have e1 : oneF f = f.d := by unfold oneF; rw [if_pos h3]
      conv => whnf
      conv => arg 2; repeat (first | rw [capN _ (by simp; omega)] | (whnf; arg 2))
      conv => whnf
      refine ⟨i + 1, [(1000, 200)], by omega, by dsimp only; omega, nofun, rfl, ⟨rfl, rfl, rfl, rfl, rfl, rfl, incN (by omega), rfl, trivial⟩, ⟨?_, rfl, trivial⟩⟩
      rw [hst, e1, bv_app]
      show some (Blk.els true ush (bv acc ++ List.take 32 (bv f.d))) = some (Blk.els true ush (bv acc ++ bv f.d))
      rw [List.take_of_length_le (by simp [hd])]
    · have h3 : f.k ≠ 6 := by simpa using h3
      have e1 : oneF f = bytesU f.n (widK f.k).toNat := by unfold oneF; rw [if_neg h3]
      have hw : widK f.k = ((widK f.k).toNat : Int) := by
        unfold widK
        repeat' split
        all_goals rfl
      have hw8 := widK_le8 h3
      conv => whnf
      refine ⟨_, f102_ok f.k ho.k.1 ho.k.2, ?_⟩
      rw [e1] at hst hon
      rw [hw]
      generalize (widK f.k).toNat = w at *
      conv => whnf
      refine LoopJ.intro (I := []) (base' := 0) hX hm (by kernel_rfl) (σ := Nat) (fun j => [(4, .own 1000), (6, .ptr 48 []), (7, .p (.i .i64 (8 * ((w : Int) - 1 - j)))), (13, fvs l), (14, .p (.i .i64 l.length)), (15, .p (.i .i64 i))])
        (fun j => [(48, .var (.p (fv f))), (1000, .els true ush (bv (acc ++ (bytesU f.n w).take j)))]) (fun j => j ≤ w) (fun j => w - j) 0 []
        (Nat.zero_le _) ⟨nofun, rfl, ⟨rfl, rfl, rfl, rfl, ?_, rfl, rfl, rfl, rfl, rfl, rfl, rfl, trivial⟩, ⟨rfl, rfl, ?_, rfl, trivial⟩⟩ ?_
      · show AV.p (.i .i64 (IntKind.i64.wrap (8 * IntKind.i64.wrap ((w : Int) - 1)))) = AV.p (.i .i64 (8 * ((w : Int) - 1 - (0 : Nat))))
        rw [wr_i64 (n := (w : Int) - 1) (by omega) (by omega), wr_i64 (by omega) (by omega)]
        simp
      · simp
        rfl
      intro j hj
      conv => whnf
      refine iteC (fun h4 => ?_) (fun h4 => ?_)
      · have h4 := of_decide_eq_true h4
        have hjw : j < w := by omega
        have e3 : (8 * ((w : Int) - 1 - j)) = ((8 * (w - 1 - j : Nat) : Nat) : Int) := by omega
        have e2 : decide ((8 * ((w : Int) - 1 - j)) < 0) = false := decide_eq_false (by omega)
        conv => whnf
        conv => arg 2; repeat (first | rw [e2] | (whnf; arg 2))
        conv => whnf
        conv => arg 2; repeat (first | rw [capN _ (by simp [bytesU_length]; omega)] | (whnf; arg 2))
        conv => whnf
        refine ⟨j + 1, [(1000, 336)], by omega, by dsimp only; omega, nofun, rfl, ⟨rfl, rfl, rfl, rfl, ?_, rfl, rfl, rfl, rfl, rfl, rfl, rfl, trivial⟩, ⟨rfl, rfl, ?_, rfl, trivial⟩⟩
        · show AV.p (.i .i64 (IntKind.i64.wrap (8 * ((w : Int) - 1 - j) - 8))) = AV.p (.i .i64 (8 * ((w : Int) - 1 - (j + 1 : Nat))))
          rw [wr_i64 (by omega) (by omega), show 8 * ((w : Int) - 1 - j) - 8 = 8 * ((w : Int) - 1 - (j + 1 : Nat)) from by omega]
        · rw [bytesU_step f.n hjw, ← List.append_assoc]
          show some (Blk.els true ush (bv (acc ++ List.take j (bytesU f.n w)) ++ [PV.i .u8 (IntKind.u8.wrap (f.n.fdiv (2 ^ (min (8 * ((w : Int) - 1 - j)).toNat 64))))])) = some (Blk.els true ush (bv (_ ++ [_])))
          rw [e3, bv_snoc]
          rfl
      · have h4 := of_decide_eq_false h4
        have htk : (bytesU f.n w).take j = bytesU f.n w := List.take_of_length_le (by rw [bytesU_length]; omega)
        rw [htk]
        conv => whnf
        refine ⟨i + 1, [], by omega, by dsimp only; omega, nofun, rfl, ⟨rfl, rfl, rfl, rfl, rfl, rfl, incN (by omega), rfl, trivial⟩, ⟨?_, rfl, trivial⟩⟩
        rw [hst]
        rfl
  · have h1 := of_decide_eq_false h1
    have htk : l.take i = l := List.take_of_length_le (by omega)
    rw [htk]
    conv => whnf
    rfl
end Go.Proofs.Ytgdpmnkmllelmaa.AM
