/- CostAdds: the walk of the law. -/
import Derived.Test.YtmngcmfcbfkimaaCostT
import Derived.Test.YtmngcmfcbfkimaaCostD
namespace Go.Proofs.Ytmngcmfcbfkimaa.AM
open Go Go.Proofs
set_option maxRecDepth 100000
theorem f38_ok (l : List R) (r : List Q) : Fn Try.prog X.G 38 [rvs l, qvs r] (.p (.b (decide (checkL l = 0 ∧ r.length ≤ 60)))) := by
  refine Fn.intro (I := []) hX hm 0 Try.func38 rfl rfl (by kernel_rfl) rfl ?_
  conv => whnf
  refine ⟨_, f29_ok l, ?_⟩
  conv => whnf
  refine iteC (fun h => ?_) (fun h => ?_)
  · have h : checkL l = 0 := by simpa using h
    conv => whnf
    refine iteC (fun h2 => ?_) (fun h2 => ?_)
    · have h2 := of_decide_eq_true h2
      rw [List.length_map] at h2
      rw [decide_eq_true (show checkL l = 0 ∧ r.length ≤ 60 from ⟨h, by omega⟩)]
      rfl
    · have h2 := of_decide_eq_false h2
      rw [List.length_map] at h2
      rw [decide_eq_false (show ¬ (checkL l = 0 ∧ r.length ≤ 60) from fun hh => by omega)]
      rfl
  · have h : checkL l ≠ 0 := by simpa using h
    rw [decide_eq_false (show ¬ (checkL l = 0 ∧ r.length ≤ 60) from fun hh => h hh.1)]
    rfl
theorem line_at {a : List Ln} {k : Int} {i : Nat} (h : i < a.length) (hb : ∀ j (hj : j < a.length), j < i → a[j].cls ≠ k) (hp : a[i].cls = k) : lineOf a k = a[i] := by
  unfold lineOf
  have : a.find? (fun x => decide (x.cls = k)) = some a[i] := by
    rw [List.find?_eq_some_iff_getElem]
    exact ⟨by simpa using hp, i, h, rfl, fun j hj => by simpa using hb j (by omega) hj⟩
  rw [this]
theorem line_no {a : List Ln} {k : Int} (hb : ∀ j (hj : j < a.length), a[j].cls ≠ k) : lineOf a k = ⟨k, 0, 0⟩ := by
  unfold lineOf
  have : a.find? (fun x => decide (x.cls = k)) = none := by
    rw [List.find?_eq_none]
    intro x hx
    obtain ⟨j, hj, rfl⟩ := List.mem_iff_getElem.1 hx
    simpa using hb j hj
  rw [this]
theorem f39_ok (a : List Ln) (k : Int) (hl : a.length ≤ 100000) : Fn Try.prog X.G 39 [lvs a, .p (.i .i64 k)] (.p (lv (lineOf a k))) := by
  refine Fn.intro (I := []) hX hm 0 Try.func39 rfl rfl (by kernel_rfl) rfl ?_
  conv => whnf
  refine LoopJ.intro (I := []) (base' := 0) hX hm (by kernel_rfl) (σ := Nat) (fun i => [(0, lvs a), (1, .p (.i .i64 k)), (4, .ptr 32 []), (5, .p (.i .i64 i))]) (fun _ => [(32, .var (.p (lv ⟨0, 0, 0⟩)))])
    (fun i => i ≤ a.length ∧ ∀ j (hj : j < a.length), j < i → a[j].cls ≠ k) (fun i => a.length - i) 0 []
    ⟨Nat.zero_le _, by intro j _ h; omega⟩ ⟨nofun, rfl, ⟨rfl, rfl, rfl, rfl, rfl, rfl, rfl, rfl, trivial⟩, ⟨rfl, rfl, trivial⟩⟩ ?_
  intro i hi
  conv => whnf
  refine iteC (fun h => ?_) (fun h => ?_)
  · have h := of_decide_eq_true h
    rw [List.length_map] at h
    have hlt : i < a.length := by omega
    have hg := getI_map (f := lv) hlt
    conv => whnf
    conv => arg 2; repeat (first | rw [hg] | (whnf; arg 2))
    conv => whnf
    refine iteC (fun h2 => ?_) (fun h2 => ?_)
    · have h2 : a[i].cls = k := by simpa using h2
      rw [line_at hlt hi.2 h2]
      conv => whnf
      conv => arg 2; repeat (first | rw [hg] | (whnf; arg 2))
      conv => whnf
      rfl
    · have h2 : a[i].cls ≠ k := by simpa using h2
      conv => whnf
      refine ⟨i + 1, [], ⟨by omega, fun j hj hji => ?_⟩, by dsimp only; omega, nofun, rfl, ⟨rfl, rfl, rfl, rfl, rfl, rfl, inc_eq hlt (by omega), rfl, trivial⟩, ⟨rfl, rfl, trivial⟩⟩
      by_cases hj2 : j = i
      · subst hj2; exact h2
      · exact hi.2 j hj (by omega)
  · have h := of_decide_eq_false h
    rw [List.length_map] at h
    rw [line_no fun j hj => hi.2 j hj (by omega)]
    rfl
set_option maxHeartbeats 8000000 in
theorem f8_ok (l : List R) (r s : List Q) : Fn Try.prog X.G 8 [rvs l, qvs r, qvs s] (.p (.b true)) := by
  refine Fn.intro (I := []) hX hm 0 Try.func8 rfl rfl (by kernel_rfl) rfl ?_
  have c1 := f38_ok l r
  by_cases hf : checkL l = 0 ∧ r.length ≤ 60
  rotate_left
  · rw [decide_eq_false hf] at c1
    conv => whnf
    repeat (first
      | (refine iteT rfl ?_; conv => whnf)
      | (refine iteF rfl ?_; conv => whnf)
      | (refine ⟨_, f35_ok, ?_⟩; conv => whnf)
      | (refine ⟨_, c1, ?_⟩; conv => whnf))
    rfl
  rw [decide_eq_true hf] at c1
  obtain ⟨hc, hr⟩ := hf
  conv => whnf
  repeat (first
    | (refine iteT rfl ?_; conv => whnf)
    | (refine iteF rfl ?_; conv => whnf)
    | (refine ⟨_, f35_ok, ?_⟩; conv => whnf)
    | (refine ⟨_, c1, ?_⟩; conv => whnf))
  refine iteC (fun h => ?_) (fun h => ?_)
  · rfl
  have h := of_decide_eq_false h
  rw [List.length_map] at h
  have hlen : IntKind.i64.wrap (((r.map qv).length : Int) + ((s.map qv).length : Int)) = ((r.length + s.length : Nat) : Int) := by
    rw [List.length_map, List.length_map, wr_i64 (by omega) (by omega)]
    omega
  conv => whnf
  refine iteC (fun h2 => ?_) (fun h2 => ?_)
  · conv => whnf
    repeat (first
      | (refine iteT rfl ?_; conv => whnf)
      | (refine iteF rfl ?_; conv => whnf))
    rfl
  have h2 := of_decide_eq_false h2
  rw [hlen] at h2
  have hrs : r.length + s.length ≤ 60 := by omega
  have e8 : ∀ x y : List Q, List.replicate 0 (qv ⟨0, 0, 0, 0, List.replicate 32 0, 0, 0⟩) ++ x.map qv ++ y.map qv = (x ++ y).map qv := fun x y => by simp
  have c2 := f30_ok l r
  have c3 := f30_ok l s
  have c4 := f30_ok l (r ++ s)
  have c5 := f30_ok l (s ++ r)
  unfold qvs at c4 c5
  rw [← e8] at c4 c5
  have ea := err_app (l := l) (r := r) (s := s) hc hrs
  have eb := err_app (l := l) (r := s) (s := r) hc (by omega)
  have z1 : ∀ x : List Q, errQ l x = 0 → totA l x = lvs (linesL 10 (x.map (priceQ l))) := fun x hx => by
    unfold totA
    rw [hx, if_neg (by simp)]
  have z2 : ∀ x : List Q, errQ l x = 6 → totA l x = .ro .one [] := fun x hx => by
    unfold totA
    rw [hx, if_pos (by decide)]
  have er := err_is (l := l) (r := r) hc (by omega)
  have es := err_is (l := l) (r := s) hc (by omega)
  rcases er with ⟨er, er2⟩ | ⟨er, _⟩ <;> rcases es with ⟨es, es2⟩ | ⟨es, _⟩
  case inl.inl =>
    rw [if_pos ⟨er, es⟩] at ea
    rw [if_pos ⟨es, er⟩] at eb
    rw [z1 _ ea, ea] at c4
    rw [z1 _ eb, eb] at c5
    rw [z1 _ er, er] at c2
    rw [z1 _ es, es] at c3
    have hcl : ∀ x ∈ (r ++ s).map (priceQ l), 0 ≤ x.1 ∧ x.1 < 10 := fun x hx => by
      obtain ⟨q, hq, rfl⟩ := List.mem_map.1 hx
      have h0 : (priceL l q.ep q.cost).2.2 = 0 := by
        rcases List.mem_append.1 hq with hm | hm
        · exact er2 q hm
        · exact es2 q hm
      obtain ⟨k, hk, e⟩ := price_cls hc h0
      show 0 ≤ (priceL l q.ep q.cost).1 ∧ (priceL l q.ep q.cost).1 < 10
      omega
    rw [List.map_append] at c4 c5 hcl
    have hlp : (r.map (priceQ l)).length = r.length := by simp
    have hlq : (s.map (priceQ l)).length = s.length := by simp
    generalize r.map (priceQ l) = ps at *
    generalize s.map (priceQ l) = qs at *
    rw [lines_comm (ps := qs) (qs := ps) (by omega)] at c5
    have hPQ : (ps ++ qs).length ≤ 1000 := by simp; omega
    have c6 := f32_ok (linesL 10 (ps ++ qs)) (linesL 10 (ps ++ qs)) (by have := linesL_len 10 (ps ++ qs); omega)
    rw [decide_eq_true rfl] at c6
    have hCl := linesL_len 10 (ps ++ qs)
    have hCm : ∀ x ∈ linesL 10 (ps ++ qs), ∃ c : Nat, c < 10 ∧ 0 < cntL c (ps ++ qs) ∧ x = ⟨c, cntL c (ps ++ qs), IntKind.u64.wrap (totI c (ps ++ qs))⟩ := fun x hx => lines_mem hPQ hx
    have hCs := lines_sorted hPQ 10
    have hCn := cntSum_all hPQ hcl
    have cA := fun (k : Nat) (hk : k < 10) => f39_ok (linesL 10 ps) k (by have := linesL_len 10 ps; omega)
    have cB := fun (k : Nat) (hk : k < 10) => f39_ok (linesL 10 qs) k (by have := linesL_len 10 qs; omega)
    have vA := fun (k : Nat) (hk : k < 10) => lineOf_lines (ps := ps) (by omega) hk
    have vB := fun (k : Nat) (hk : k < 10) => lineOf_lines (ps := qs) (by omega) hk
    generalize linesL 10 (ps ++ qs) = C at *
    generalize linesL 10 ps = A at *
    generalize linesL 10 qs = B at *
    conv => whnf
    repeat (first
      | (refine iteT rfl ?_; conv => whnf)
      | (refine iteF rfl ?_; conv => whnf)
      | (refine ⟨_, c2, ?_⟩; conv => whnf)
      | (refine ⟨_, c3, ?_⟩; conv => whnf))
    iterate 2
      conv => arg 2; repeat (first | rw [capN _ (by simp; omega)] | (whnf; arg 2))
      conv => whnf
    refine ⟨_, c4, ?_⟩
    conv => whnf
    iterate 2
      conv => arg 2; repeat (first | rw [capN _ (by simp; omega)] | (whnf; arg 2))
      conv => whnf
    refine ⟨_, c5, ?_⟩
    conv => whnf
    repeat (first
      | (refine iteT rfl ?_; conv => whnf)
      | (refine iteF rfl ?_; conv => whnf)
      | (refine ⟨_, c6, ?_⟩; conv => whnf))
    have hCc : ∀ x ∈ C, 0 ≤ x.cnt := fun x hx => by
      obtain ⟨k, _, _, rfl⟩ := hCm x hx
      exact Int.natCast_nonneg _
    refine LoopJ.intro (I := []) (base' := 0) hX hm (by kernel_rfl) (σ := Nat) (fun i => [(1, qvs r), (2, qvs s), (7, .p (.b true)), (8, .own 368), (10, .own 416), (12, .own 496), (16, .p (.i .i64 (cntSum (C.take i)))), (17, .p (.i .i64 i))])
      (fun _ => [(368, .els true lnsh (A.map lv)), (416, .els true lnsh (B.map lv)), (496, .els true lnsh (C.map lv))]) (fun i => i ≤ C.length) (fun i => C.length - i) 0 []
      (Nat.zero_le _) ⟨nofun, rfl, ⟨rfl, rfl, rfl, rfl, rfl, rfl, rfl, rfl, rfl, rfl, rfl, rfl, rfl, rfl, rfl, rfl, trivial⟩, ⟨rfl, rfl, rfl, rfl, rfl, rfl, trivial⟩⟩ ?_
    intro i hi
    conv => whnf
    refine iteC (fun h3 => ?_) (fun h3 => ?_)
    · have h3 := of_decide_eq_true h3
      rw [List.length_map] at h3
      have hlt : i < C.length := by omega
      obtain ⟨k, hk, hp, e⟩ := hCm _ (List.getElem_mem hlt)
      have hg := getM (f := lv) hlt
      have hn := nthM (f := lv) hlt
      have hst := cntSum_step hlt
      have hpart := cntSum_part hCc (i + 1)
      have hpart0 := cntSum_part hCc i
      rw [hCn] at hpart hpart0
      have hprev : ∀ (j : Nat) (hj : j + 1 = i), ∃ x : Ln, getI (C.map lv) (IntKind.i64.wrap ((i : Int) - 1)) = some (lv x) ∧ (C.map lv)[(IntKind.i64.wrap ((i : Int) - 1)).toNat]? = some (lv x) ∧ decide ((k : Int) ≤ x.cls) = false := fun j hj => by
        have hjl : j < C.length := by omega
        have ej : IntKind.i64.wrap ((i : Int) - 1) = (j : Int) := by
          rw [wr_i64 (by omega) (by omega)]
          omega
        rw [ej]
        refine ⟨C[j], getM (f := lv) hjl, nthM (f := lv) hjl, decide_eq_false ?_⟩
        have hs := (List.pairwise_iff_getElem.1 hCs) j i hjl hlt (by omega)
        have hs2 : C[j].cls < k := by
          rw [e] at hs
          exact hs
        omega
      rw [e] at hg hn hst
      have a1 := cA k hk
      have b1 := cB k hk
      rw [vA k hk] at a1
      rw [vB k hk] at b1
      have n1 : (((cntL k (ps ++ qs) : Nat) : Int) != IntKind.i64.wrap (((cntL k ps : Nat) : Int) + ((cntL k qs : Nat) : Int))) = false := by
        have g1 : cntL k ps ≤ ps.length := List.countP_le_length
        have g2 : cntL k qs ≤ qs.length := List.countP_le_length
        rw [cntL_app, wr_i64 (by omega) (by omega)]
        simp
      have n2 : (IntKind.u64.wrap (totI k (ps ++ qs)) != IntKind.u64.wrap (IntKind.u64.wrap (totI k ps) + IntKind.u64.wrap (totI k qs))) = false := by
        rw [totI_app, wrap_add2]
        simp
      have n3 : decide (((cntL k (ps ++ qs) : Nat) : Int) < 1) = false := decide_eq_false (by omega)
      have hlP : (ps ++ qs).length = r.length + s.length := by rw [List.length_append, hlp, hlq]
      rw [hlP] at hpart hpart0
      have n4 : IntKind.i64.wrap (cntSum (C.take i) + ((cntL k (ps ++ qs) : Nat) : Int)) = cntSum (C.take (i + 1)) := by
        rw [hst] at hpart ⊢
        dsimp only at hpart ⊢
        rw [wr_i64 (by omega) (by omega)]
      generalize cntL k (ps ++ qs) = m at *
      generalize cntL k ps = m1 at *
      generalize cntL k qs = m2 at *
      generalize IntKind.u64.wrap (totI k (ps ++ qs)) = w at *
      generalize IntKind.u64.wrap (totI k ps) = w1 at *
      generalize IntKind.u64.wrap (totI k qs) = w2 at *
      conv => whnf
      iterate 24
        repeat (first
          | (refine iteT rfl ?_; conv => whnf)
          | (refine iteF rfl ?_; conv => whnf)
          | (refine iteF n1 ?_; conv => whnf)
          | (refine iteF n2 ?_; conv => whnf)
          | (refine iteF n3 ?_; conv => whnf)
          | (refine ⟨_, a1, ?_⟩; conv => whnf)
          | (refine ⟨_, b1, ?_⟩; conv => whnf))
        try (conv => arg 2; repeat (first | rw [hg] | rw [hn] | (whnf; arg 2)))
        try (conv => whnf)
      refine iteC (fun h5 => ?_) (fun h5 => ?_)
      · have h5 := of_decide_eq_true h5
        obtain ⟨x, g1, g2, g3⟩ := hprev (i - 1) (by omega)
        conv => whnf
        iterate 12
          try (conv => arg 2; repeat (first | rw [hg] | rw [hn] | rw [g1] | rw [g2] | (whnf; arg 2)))
          try (conv => whnf)
        refine iteF g3 ?_
        conv => whnf
        iterate 4
          try (conv => arg 2; repeat (first | rw [hg] | rw [hn] | (whnf; arg 2)))
          try (conv => whnf)
        exact ⟨i + 1, [], by omega, by dsimp only; omega, nofun, rfl, ⟨rfl, rfl, rfl, rfl, rfl, rfl, rfl, rfl, rfl, rfl, rfl, rfl, congrArg (fun c => AV.p (.i .i64 c)) n4, rfl, incN (by omega), rfl, trivial⟩, ⟨rfl, rfl, rfl, rfl, rfl, rfl, trivial⟩⟩
      · conv => whnf
        iterate 4
          try (conv => arg 2; repeat (first | rw [hg] | rw [hn] | (whnf; arg 2)))
          try (conv => whnf)
        exact ⟨i + 1, [], by omega, by dsimp only; omega, nofun, rfl, ⟨rfl, rfl, rfl, rfl, rfl, rfl, rfl, rfl, rfl, rfl, rfl, rfl, congrArg (fun c => AV.p (.i .i64 c)) n4, rfl, incN (by omega), rfl, trivial⟩, ⟨rfl, rfl, rfl, rfl, rfl, rfl, trivial⟩⟩
    · have h3 := of_decide_eq_false h3
      rw [List.length_map] at h3
      have hiC : i = C.length := by omega
      have ht : cntSum (C.take i) = ((r.length + s.length : Nat) : Int) := by
        rw [hiC, List.take_length, hCn, List.length_append, hlp, hlq]
      rw [ht]
      have hfin : (((r.length + s.length : Nat) : Int) == IntKind.i64.wrap (((r.map qv).length : Int) + ((s.map qv).length : Int))) = true := by
        rw [hlen]
        simp
      conv => whnf
      refine iteT hfin ?_
      rfl
  all_goals
    rw [if_neg (by omega)] at ea eb
    rw [z2 _ ea, ea] at c4
    rw [z2 _ eb, eb] at c5
    try rw [z1 _ er, er] at c2
    try rw [z2 _ er, er] at c2
    try rw [z1 _ es, es] at c3
    try rw [z2 _ es, es] at c3
    conv => whnf
    repeat (first
      | (refine iteT rfl ?_; conv => whnf)
      | (refine iteF rfl ?_; conv => whnf)
      | (refine ⟨_, c2, ?_⟩; conv => whnf)
      | (refine ⟨_, c3, ?_⟩; conv => whnf))
    iterate 2
      conv => arg 2; repeat (first | rw [capN _ (by simp; omega)] | (whnf; arg 2))
      conv => whnf
    refine ⟨_, c4, ?_⟩
    conv => whnf
    iterate 2
      conv => arg 2; repeat (first | rw [capN _ (by simp; omega)] | (whnf; arg 2))
      conv => whnf
    refine ⟨_, c5, ?_⟩
    conv => whnf
    repeat (first
      | (refine iteT rfl ?_; conv => whnf)
      | (refine iteF rfl ?_; conv => whnf)
      | (refine ⟨_, f32_nil, ?_⟩; conv => whnf))
    rfl
end Go.Proofs.Ytmngcmfcbfkimaa.AM
