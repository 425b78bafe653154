/- A row of operations whose order is open: one walk in the text's order serves every order. -/
import Derived.Test.YtmngcmfcbfkimaaAm23
namespace Go.Proofs.Ytmngcmfcbfkimaa.AM
open Go Go.RowKit

variable {P : Program} {X : Ctx} {W : World} {φ : Phi} {H L : HeapF} {w : World} {ρ : Nat → AV} {a : Act}

theorem mapOp_congr {G : Globs} {ρ ρ' : Nat → AV} {l : List Operand} (h : ∀ x ∈ l, ev G ρ x = ev G ρ' x) : mapOp (ev G ρ) l = mapOp (ev G ρ') l := by
  induction l with
  | nil => rfl
  | cons x l ih => simp only [mapOp]; rw [h x (by simp), ih fun y hy => h y (by simp [hy])]

theorem mapPair_congr {G : Globs} {ρ ρ' : Nat → AV} {l : List (Nat × Operand)} (h : ∀ x ∈ l.map (·.2), ev G ρ x = ev G ρ' x) : mapPair (ev G ρ) l = mapPair (ev G ρ') l := by
  induction l with
  | nil => rfl
  | cons x l ih =>
    obtain ⟨i, x⟩ := x
    simp only [mapPair]
    rw [h x (by simp), ih fun y hy => h y (by simp only [List.map_cons, List.mem_cons]; exact .inr hy)]

theorem opV_congr {ρ ρ' : Nat → AV} {fid : Nat → Nat} {o : Oper} (h : ∀ x ∈ o.op.operands.toList, ev X.G ρ x = ev X.G ρ' x) : opV X ρ L fid o = opV X ρ' L fid o := by
  obtain ⟨dst, op, ty, pos, after, guard⟩ := o
  cases op <;> simp only [Op.operands] at h <;> simp only [opV]
  case build t ps => rw [mapPair_congr fun x hx => h x (by simpa using hx)]
  case buildSlice t n ps => rw [mapPair_congr fun x hx => h x (by simpa using hx)]
  case makeFunc fn first caps =>
    cases fn <;> try rfl
    cases hf : first.toList with
    | nil => simp only; rw [mapOp_congr fun x hx => h x (by simp; exact .inr (by simpa using hx))]
    | cons => rfl
  case call c =>
    obtain ⟨cal, args, ts⟩ := c
    cases cal <;> simp only
    rw [mapOp_congr fun x hx => h x (by simp [Call.operands]; simpa using hx)]
  case slice t x lo hi mx =>
    have hx := h x (by simp)
    have hlo : optOp (ev X.G ρ) lo = optOp (ev X.G ρ') lo := by cases lo with | none => rfl | some y => simp only [optOp]; rw [h y (by simp)]
    have hhi : optOp (ev X.G ρ) hi = optOp (ev X.G ρ') hi := by cases hi with | none => rfl | some y => simp only [optOp]; rw [h y (by simp)]
    have hmx : optOp (ev X.G ρ) mx = optOp (ev X.G ρ') mx := by cases mx with | none => rfl | some y => simp only [optOp]; rw [h y (by simp)]
    rw [hx, hlo, hhi, hmx]
  all_goals first
    | rfl
    | (rename_i x; rw [h x (by simp)]; done)
    | (rename_i x _; rw [h x (by simp)]; done)
    | (rename_i _ x; rw [h x (by simp)]; done)
    | (rename_i _ x _; rw [h x (by simp)]; done)
    | (rename_i x y; rw [h x (by simp), h y (by simp)]; done)
    | (rename_i x y z; rw [h x (by simp), h y (by simp), h z (by simp)]; done)
    | (rename_i _ x y; rw [h x (by simp), h y (by simp)]; done)
    | (rename_i _ _ x y _; rw [h x (by simp), h y (by simp)]; done)
    | (rename_i _ _ x; rw [h x (by simp)]; done)

theorem callee_congr {ρ ρ' : Nat → AV} {o : Oper} (h : ∀ x ∈ o.op.operands.toList, ev X.G ρ x = ev X.G ρ' x) : callee X ρ o = callee X ρ' o := by
  unfold callee
  split
  · rename_i f args ts hop
    rw [hop] at h
    simp only [Op.operands, Call.operands] at h
    rw [h f (by simp), mapOp_congr (l := args.toList) fun x hx => h x (by simp; exact .inr (by simpa using hx))]
  · rfl

theorem opndRefs_congr {G : Globs} {ρ ρ' : Nat → AV} {l : List Operand} (h : ∀ x ∈ l, ev G ρ x = ev G ρ' x) : opndRefs G ρ l = opndRefs G ρ' l := by
  induction l with
  | nil => rfl
  | cons x l ih => simp only [opndRefs]; rw [h x (by simp), ih fun y hy => h y (by simp [hy])]

theorem looks_congr {ρ ρ' : Nat → AV} {fid : Nat → Nat} {o : Oper} (h : ∀ x ∈ o.op.operands.toList, ev X.G ρ x = ev X.G ρ' x) : looks X ρ fid o = looks X ρ' fid o := by
  unfold looks
  rw [opndRefs_congr h]

theorem ev_updE {G : Globs} {dst : Option Tmp} {v : AV} {x : Operand} (h : ∀ d, dst = some d → x ≠ .tmp d) : ev G (updE dst v ρ) x = ev G ρ x := by
  cases dst with
  | none => rfl
  | some d =>
    cases x with
    | tmp t =>
      have : t ≠ d := fun e => h d rfl (e ▸ rfl)
      simp [ev, updE, upd, this]
    | _ => rfl

theorem ev_apart {G : Globs} {ops : Array Oper} {dst : Option Tmp} {v : AV} {o : Oper} (h : ∀ d, dst = some d → d ∉ o.looksAt ops) : ∀ x ∈ o.op.operands.toList, ev G (updE dst v ρ) x = ev G ρ x := fun x hx =>
  ev_updE fun d hd hxd => h d hd (by
    subst hxd
    exact List.mem_append_left _ (List.mem_filterMap.2 ⟨.tmp d, hx, rfl⟩))

theorem guard_apart {G : Globs} {ops : Array Oper} {dst : Option Tmp} {v : AV} {o : Oper} (h : ∀ d, dst = some d → d ∉ o.looksAt ops) : guardV G ops.toList (updE dst v ρ) o = guardV G ops.toList ρ o := by
  unfold guardV
  cases hg : o.guard with
  | none => rfl
  | some jw =>
    obtain ⟨j, want⟩ := jw
    simp only
    cases hj : ops.toList[j]? with
    | none => rfl
    | some g =>
      simp only
      cases ht : g.dst with
      | none => rfl
      | some t =>
        simp only
        have : updE dst v ρ t = ρ t := by
          cases dst with
          | none => rfl
          | some d =>
            have hne : t ≠ d := fun e => h d rfl (by
              subst e
              have hj' : ops[j]? = some g := by simpa using hj
              simp [Oper.looksAt, hg, hj', ht])
            simp [updE, upd, hne]
        rw [this]

/-- What an operation leaves: the value, and the blocks that it has made or turned; it looks at no block but lk, and touches none but wr. -/
def YA (X : Ctx) (J : Jd) (base : Nat) (ops : Array Oper) (o : Oper) (ρ : Nat → AV) (H : HeapF) (v : AV) (d : Delta) (lk wr : List Nat) : Prop :=
  (guardV X.G ops.toList ρ o = some false ∧ v = .tup [] ∧ d = []) ∨
  (guardV X.G ops.toList ρ o = some true ∧ (∀ i ∈ looks X ρ (fun s => base + s) o, i ∈ lk) ∧ (∀ i ∈ dIds d, i ∈ wr) ∧
    ((callee X ρ o = none ∧ opV X ρ (restrict H (looks X ρ (fun s => base + s) o)) (fun s => base + s) o = some (v, d)) ∨
     ∃ f as bs rv, callee X ρ o = some (f, as) ∧ shutAll (restrict H (looks X ρ (fun s => base + s) o)) as = some bs ∧ J.fn f bs rv ∧ adopt H (fun s => base + s) ((o.dst.getD 0) * 8) rv = some (v, d)))

theorem restrict_congr {H' : HeapF} {l : List Nat} (h : ∀ i ∈ l, H i = H' i) : restrict H l = restrict H' l := by
  funext i
  unfold restrict
  cases hb : memN i l with
  | true => exact h i (memN_iff.1 hb)
  | false => rfl

theorem dIds_appD (d e : Delta) : dIds (appD d e) = dIds d ++ dIds e := by
  induction d with
  | nil => rfl
  | cons x d ih => obtain ⟨i, b⟩ := x; simp [appD, dIds, ih]

theorem addF_ne {d : Delta} {i : Nat} (h : i ∉ dIds d) : addF d H i = H i := by
  induction d generalizing H with
  | nil => rfl
  | cons x d ih =>
    obtain ⟨j, b⟩ := x
    simp only [dIds, List.mem_cons, not_or] at h
    simp only [addF]
    rw [ih h.2, upd_ne _ _ h.1]

theorem addF_congr {d : Delta} {H' : HeapF} {i : Nat} (h : H i = H' i) : addF d H i = addF d H' i := by
  induction d generalizing H H' with
  | nil => exact h
  | cons x d ih =>
    obtain ⟨j, b⟩ := x
    simp only [addF]
    refine ih ?_
    unfold upd
    split
    · rfl
    · exact h

theorem adopt1_congr {L' : HeapF} {site : Nat} {x y : AV} {d : Delta} (h : ∀ i ∈ dIds d, L i = L' i) (ha : adopt1 L site x = some (y, d)) : adopt1 L' site x = some (y, d) := by
  cases x <;> simp only [adopt1] at ha ⊢ <;> try (cases ha; done)
  · exact ha
  · split at ha
    · rename_i hl
      cases ha
      rw [← h site (by simp [dIds]), hl]
    · cases ha

theorem adoptL_congr {fid : Nat → Nat} : ∀ {xs ys : List AV} {L L' : HeapF} {site : Nat} {d : Delta}, (∀ i ∈ dIds d, L i = L' i) → adoptL fid L site xs = some (ys, d) → adoptL fid L' site xs = some (ys, d)
  | [], ys, L, L', site, d, h, ha => by simpa [adoptL] using ha
  | x :: xs, ys, L, L', site, d, h, ha => by
    simp only [adoptL] at ha ⊢
    split at ha
    · rename_i y d1 hy
      split at ha
      · rename_i ys' d2 hys
        cases ha
        rw [dIds_appD] at h
        rw [adopt1_congr (fun i hi => h i (by simp [hi])) hy]
        simp only
        rw [adoptL_congr (fun i hi => addF_congr (h i (by simp [hi]))) hys]
      · cases ha
    · cases ha

theorem adoptT_congr {fid : Nat → Nat} : ∀ {xs ys : List AV} {L L' : HeapF} {site : Nat} {d : Delta}, (∀ i ∈ dIds d, L i = L' i) → adoptT fid L site xs = some (ys, d) → adoptT fid L' site xs = some (ys, d)
  | [], ys, L, L', site, d, h, ha => by simpa [adoptT] using ha
  | x :: xs, ys, L, L', site, d, h, ha => by
    by_cases hst : ∃ l, x = .st l
    · obtain ⟨l, rfl⟩ := hst
      simp only [adoptT] at ha ⊢
      split at ha
      · rename_i y d1 hy
        split at ha
        · rename_i ys' d2 hys
          cases ha
          rw [dIds_appD] at h
          rw [adoptL_congr (fun i hi => h i (by simp [hi])) hy]
          simp only
          rw [adoptT_congr (fun i hi => addF_congr (h i (by simp [hi]))) hys]
        · cases ha
      · cases ha
    · obtain ⟨y, ys', d1, d2, hy, hys, rfl, rfl⟩ := adoptT_cons (fun l e => hst ⟨l, e⟩) ha
      rw [dIds_appD] at h
      have h1 := adopt1_congr (L' := L') (fun i hi => h i (by simp [hi])) hy
      have h2 := adoptT_congr (L' := addF d1 L') (fun i hi => addF_congr (h i (by simp [hi]))) hys
      cases x <;> first
        | exact absurd ⟨_, rfl⟩ hst
        | (simp only [adoptT, h1, h2])

theorem adopt_congr {fid : Nat → Nat} {L' : HeapF} {site : Nat} {x y : AV} {d : Delta} (h : ∀ i ∈ dIds d, L i = L' i) (ha : adopt L fid site x = some (y, d)) : adopt L' fid site x = some (y, d) := by
  cases x with
  | tup l =>
    simp only [adopt] at ha ⊢
    split at ha
    · rename_i m d' hm
      cases ha
      rw [adoptT_congr h hm]
    · cases ha
  | st l =>
    simp only [adopt] at ha ⊢
    split at ha
    · rename_i m d' hm
      cases ha
      rw [adoptL_congr h hm]
    · cases ha
  | _ => simp only [adopt] at ha ⊢; exact adopt1_congr h ha

theorem YA.congr {J : Jd} {base : Nat} {ops : Array Oper} {o : Oper} {ρ' : Nat → AV} {H' : HeapF} {v : AV} {d : Delta} {lk wr : List Nat} (h : YA X J base ops o ρ H v d lk wr)
    (h1 : ∀ x ∈ o.op.operands.toList, ev X.G ρ x = ev X.G ρ' x) (h2 : guardV X.G ops.toList ρ' o = guardV X.G ops.toList ρ o) (h3 : ∀ i ∈ lk, H i = H' i) (h4 : ∀ i ∈ wr, H i = H' i) :
    YA X J base ops o ρ' H' v d lk wr := by
  rcases h with ⟨g1, g2⟩ | ⟨g1, g2, g3, g4⟩
  · exact .inl ⟨h2.trans g1, g2⟩
  · have hl : looks X ρ' (fun s => base + s) o = looks X ρ (fun s => base + s) o := (looks_congr h1).symm
    have hr : restrict H' (looks X ρ (fun s => base + s) o) = restrict H (looks X ρ (fun s => base + s) o) := (restrict_congr fun i hi => h3 i (g2 i hi)).symm
    refine .inr ⟨h2.trans g1, by rw [hl]; exact g2, g3, ?_⟩
    rw [hl, hr, ← callee_congr h1]
    rcases g4 with ⟨k1, k2⟩ | ⟨f, as, bs, rv, k1, k2, k3, k4⟩
    · exact .inl ⟨k1, by rw [← opV_congr h1]; exact k2⟩
    · exact .inr ⟨f, as, bs, rv, k1, k2, k3, adopt_congr (fun i hi => h4 i (g3 i hi)) k4⟩

/-- In the model the operation does just that. -/
theorem YA.wp (hX : X.ok P) (hG : GlobOK W X.G) {J : Jd} (hfn : ∀ f as r, J.fn f as r → Fn P X.G f as r) {base n : Nat} {ops : Array Oper} {o : Oper} {v : AV} {d : Delta} {lk wr : List Nat}
    (h : YA X J base ops o ρ H v d lk wr) (hs : Sim W φ H ρ n a w) (hd : dstOK n o = true) {C : Act → World → Prop} {Q : Exit → Act → World → Prop}
    (hC : ∀ φ' a' w', Sim W φ' (addF d H) (updE o.dst v ρ) n a' w' → HExt φ H φ' (addF d H) → C a' w') :
    if Region.wanted o (yielded ops a.tmps) then o.wp P a w C Q else C (a.put o.dst undef) w := by
  have next : ∀ (v' : Value) (φ' : Phi) (w' : World), HSim W φ' (addF d H) w' → HExt φ H φ' (addF d H) → Rel W φ' (addF d H) v v' → C (a.put o.dst v') w' := by
    intro v' φ' w' h1 h2 h3
    exact hC φ' _ w' (Sim.put (o := o) ⟨h1, hs.env.mono h2, hs.size, hs.defers⟩ hd h3) h2
  rcases h with ⟨g1, rfl, rfl⟩ | ⟨g1, g2, g3, g4⟩
  · rw [guardV_ok hs.env g1]
    simp only [Bool.false_eq_true, if_false]
    exact next undef φ w hs.heap (HExt.refl _ _) skip_rel
  · rw [guardV_ok hs.env g1]
    simp only [if_true]
    have hsub : SubH (restrict H (looks X ρ (fun s => base + s) o)) H := fun i b hb => by
      unfold restrict at hb
      split at hb
      · exact hb
      · cases hb
    rcases g4 with ⟨k1, k2⟩ | ⟨f, as, bs, rv, k1, k2, k3, k4⟩
    · obtain ⟨w', φ', v', hrun, q1, q2, q3⟩ := opV_ok (P := P) (w := w) hX hG hs.heap hsub hs.env (fun hn => by
        unfold restrict at hn
        have : memN (base + (o.dst.getD 0) * 8) (looks X ρ (fun s => base + s) o) = true := memN_iff.2 (by simp [looks, sites])
        rw [this] at hn
        exact hn) k2
      unfold Oper.wp
      rcases hrun with hrun | ⟨hrun, rfl⟩
      · rw [hrun, Oper.upon_value]
        exact next v' φ' w' q1 q2 q3
      · rw [hrun, Oper.upon_skip]
        exact next undef φ' w' q1 q2 q3
    · obtain ⟨hok, hcall⟩ := hfn _ _ _ k3
      obtain ⟨vs, hvs, hrun⟩ := callee_ok (w := w) hG hs.env k1 hok
      have hshut := shutAll_ok hs.heap hsub hvs k2 noPhi noHeap
      have hGw : GlobOK w X.G := fun g x hgx => ⟨(hG g x hgx).1, (hG g x hgx).2.later hs.heap.below⟩
      unfold Oper.wp
      rw [hrun, Oper.upon_enter]
      refine (hcall w vs hGw hshut).mono ?_
      rintro en w' ⟨v', φ1, H1, x, rfl, q1, q2, q3⟩
      obtain ⟨φ2, r1, r2, r3⟩ := adopt_ok hs.heap q1 (fun _ h => h) q2 q3 k4
      exact next v' φ2 w' r1 r2 r3

end Go.Proofs.Ytmngcmfcbfkimaa.AM
