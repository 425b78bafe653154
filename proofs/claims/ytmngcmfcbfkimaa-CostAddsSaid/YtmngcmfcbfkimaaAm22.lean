/- Calls by contract: what a callee hands back. -/
import Derived.Test.YtmngcmfcbfkimaaAm21
namespace Go.Proofs.Ytmngcmfcbfkimaa.AM
open Go Go.RowKit

variable {P : Program} {X : Ctx} {W : World} {φ : Phi} {H L : HeapF} {w : World} {ρ : Nat → AV} {a : Act}

def noPhi : Phi := fun _ => none
def noHeap : HeapF := fun _ => none

/-- The function is one of the program's own, with a body. -/
def FnOK (P : Program) (f : Nat) : Prop := ∃ fn c, P.funcs[f]? = some fn ∧ fn.body = some c ∧ (fn.name == "runtime.NumGoroutine") = false

/-- The contract of a Go function in plain data: called with values that read so, it returns, nothing that was there has turned, and its result, in memory of its own, reads so. -/
def Fn (P : Program) (G : Globs) (f : Nat) (as : List AV) (r : AV) : Prop :=
  FnOK P f ∧ ∀ w vs, GlobOK w G → RelL w noPhi noHeap as vs → Calls P f vs.toArray w fun e w' =>
    ∃ v φ H x, e = .returned v ∧ HSim w φ H w' ∧ Rel w φ H x v ∧ told H r x = some r

theorem addF_appD (d e : Delta) (H : HeapF) : addF (appD d e) H = addF e (addF d H) := by
  induction d generalizing H with
  | nil => rfl
  | cons x d ih => obtain ⟨i, b⟩ := x; simp only [appD, addF, ih]

/-- A block that nobody has yet, under a new name. -/
theorem HSim.put {id : Nat} {blk : Blk} {pc : Option (Nat × Nat)} (h : HSim W φ H w) (hn : H id = none)
    (hok : BlkOK W (upd φ id pc) (upd H id (some blk)) w id blk) (hge : ∀ b c, pc = some (b, c) → W.heap.size ≤ b)
    (hdis : ∀ b c, pc = some (b, c) → ∀ j y c', H j = some y → y ≠ .dead → φ j = some (b, c') → False) :
    HSim W (upd φ id pc) (upd H id (some blk)) w ∧ HExt φ H (upd φ id pc) (upd H id (some blk)) := by
  have he : HExt φ H (upd φ id pc) (upd H id (some blk)) := fun i x hx => by
    have hne : i ≠ id := fun e => by rw [e, hn] at hx; cases hx
    exact ⟨upd_ne _ _ hne, x, (upd_ne _ _ hne).trans hx, BlkLe.refl x⟩
  refine ⟨⟨h.below, fun i x hx => ?_, fun i x b c hx hφ => ?_, fun i j x y b c c' hx hy dx dy hij hi hj => ?_⟩, he⟩
  · by_cases hi : i = id
    · subst hi
      rw [upd_same] at hx
      cases hx
      exact hok
    · rw [upd_ne _ _ hi] at hx
      exact (h.blk i x hx).keep he (upd_ne _ _ hi) (fun _ _ _ _ => rfl)
  · by_cases hi : i = id
    · subst hi
      rw [upd_same] at hφ
      exact hge b c hφ
    · rw [upd_ne _ _ hi] at hx hφ
      exact h.ge i x b c hx hφ
  · by_cases hi' : i = id
    · subst hi'
      rw [upd_same] at hi
      have hj' : j ≠ i := fun e => hij e.symm
      rw [upd_ne _ _ hj'] at hy hj
      exact hdis b c hi j y c' hy dy hj
    · rw [upd_ne _ _ hi'] at hx hi
      by_cases hj' : j = id
      · subst hj'
        rw [upd_same] at hj
        exact hdis b c' hj i x c hx dx hi
      · rw [upd_ne _ _ hj'] at hy hj
        exact h.dis i j x y b c c' hx hy dx dy hij hi hj

/-- A caller's heap over a callee's last memory: its blocks are old ones, or those of the callee's results that it has taken over. -/
structure Took (W w : World) (φ' : Phi) (H' : HeapF) (w' : World) (used : List Nat) (φ : Phi) (H : HeapF) : Prop where
  sim : HSim W φ H w'
  old : ∀ j y b c, H j = some y → y ≠ .dead → φ j = some (b, c) → b < w.heap.size ∨ ∃ k ∈ used, ∃ z c', H' k = some z ∧ z ≠ .dead ∧ φ' k = some (b, c')

theorem adopt1_ok {w' : World} {φ' : Phi} {H' : HeapF} {used : List Nat} (hc : HSim w φ' H' w') (hT : Took W w φ' H' w' used φ H) (hW : W.heap.size ≤ w.heap.size) {site : Nat} (hL : L site = none → H site = none)
    {x r y g : AV} {v : Value} {d : Delta} (hx : Rel w φ' H' x v) (ht : told1 H' g x = some r) (hu : ∀ k ∈ x.refs, k ∉ used) (h : adopt1 L site r = some (y, d)) :
    ∃ φ2, Took W w φ' H' w' (x.refs ++ used) φ2 (addF d H) ∧ HExt φ H φ2 (addF d H) ∧ Rel W φ2 (addF d H) y v ∧ y.stays = true ∧ y.isAgg = r.isAgg := by
  unfold told1 at ht
  split at ht
  · cases ht
    simp only [adopt1, Option.some.injEq, Prod.mk.injEq] at h
    obtain ⟨rfl, rfl⟩ := h
    refine ⟨φ, ⟨hT.sim, fun j y b c h1 h2 h3 => ?_⟩, HExt.refl _ _, ?_, rfl, rfl⟩
    · rcases hT.old j y b c h1 h2 h3 with h | ⟨k, hk, h⟩
      · exact .inl h
      · exact .inr ⟨k, by simp [hk], h⟩
    · simpa [Rel] using hx
  · obtain ⟨sh, rfl⟩ : ∃ sh, r = .ro sh [] := by
      unfold toldN at ht
      split at ht <;> cases ht <;> exact ⟨_, rfl⟩
    simp only [adopt1] at h
    split at h
    · rename_i hl
      cases h
      simp only [Rel] at hx
      subst hx
      obtain ⟨g1, g2⟩ := hT.sim.put (id := site) (blk := .els true sh []) (pc := none) (hL hl) ⟨trivial, trivial, by rw [upd_same]⟩ (fun b c h => by cases h) (fun b c h => by cases h)
      refine ⟨upd φ site none, ⟨g1, fun j y b c h1 h2 h3 => ?_⟩, g2, ?_, rfl, rfl⟩
      · simp only [addF] at h1
        by_cases hj : j = site
        · subst hj; rw [upd_same] at h3; cases h3
        · rw [upd_ne _ _ hj] at h1 h3
          rcases hT.old j y b c h1 h2 h3 with h | ⟨k, hk, h⟩
          · exact .inl h
          · exact .inr ⟨k, by simp [hk], h⟩
      · simp only [addF, Rel, upd_same]
        trivial
    · cases h
  · rename_i id
    split at ht
    · rename_i s l hl'
      cases ht
      simp only [adopt1] at h
      split at h
      · rename_i hl
        cases h
        have hbk := hc.blk _ _ hl'
        obtain ⟨h1, h2, h3⟩ := hbk
        simp only [Rel, hl'] at hx
        have hne : ∀ b c, φ' id = some (b, c) → ∀ j y c', H j = some y → y ≠ .dead → φ j = some (b, c') → False := fun b c hb j y c' k1 k2 k3 => by
          have hge := hc.ge id _ b c hl' hb
          rcases hT.old j y b c' k1 k2 k3 with h | ⟨k, hk, z, c2, q1, q2, q3⟩
          · omega
          · have hne : id ≠ k := fun e => hu id (by simp [AV.refs]) (e ▸ hk)
            exact hc.dis id k _ z b c c2 hl' q1 (by simp) q2 hne hb q3
        obtain ⟨g1, g2⟩ := hT.sim.put (id := site) (blk := .els true s l) (pc := φ' id) (hL hl)
          ⟨h1, h2, by rw [upd_same]; exact h3⟩
          (fun b c h => Nat.le_trans hW (hc.ge id _ b c hl' h)) hne
        refine ⟨upd φ site (φ' id), ⟨g1, fun j y b c q1 q2 q3 => ?_⟩, g2, ?_, rfl, rfl⟩
        · simp only [addF] at q1
          by_cases hj : j = site
          · subst hj
            rw [upd_same] at q3
            exact .inr ⟨id, by simp [AV.refs], _, c, hl', by simp, q3⟩
          · rw [upd_ne _ _ hj] at q1 q3
            rcases hT.old j y b c q1 q2 q3 with h | ⟨k, hk, h⟩
            · exact .inl h
            · exact .inr ⟨k, by simp [hk], h⟩
        · simp only [addF, Rel, upd_same]
          exact hx
      · cases h
    · cases ht
  · rename_i id n
    split at ht
    · rename_i s l hl'
      cases ht
      simp only [adopt1] at h
      split at h
      · rename_i hl
        cases h
        have hbk := hc.blk _ _ hl'
        obtain ⟨h1, h2, h3⟩ := hbk
        simp only [Rel, hl'] at hx
        obtain ⟨hn, hx⟩ := hx
        have hne : ∀ b c, φ' id = some (b, c) → ∀ j y c', H j = some y → y ≠ .dead → φ j = some (b, c') → False := fun b c hb j y c' k1 k2 k3 => by
          have hge := hc.ge id _ b c hl' hb
          rcases hT.old j y b c' k1 k2 k3 with h | ⟨k, hk, z, c2, q1, q2, q3⟩
          · omega
          · have hne : id ≠ k := fun e => hu id (by simp [AV.refs]) (e ▸ hk)
            exact hc.dis id k _ z b c c2 hl' q1 (by simp) q2 hne hb q3
        obtain ⟨g1, g2⟩ := hT.sim.put (id := site) (blk := .els true s (l.take n)) (pc := φ' id) (hL hl)
          ⟨okL_take h1 n, allSh_take h2 n, by
            rw [upd_same]
            cases hφ : φ' id with
            | none => rw [hφ] at h3; simp only at h3 ⊢; rw [h3]; simp
            | some p =>
              obtain ⟨b, cap⟩ := p
              rw [hφ] at h3
              obtain ⟨cs, T, fr, k1, k2, k3, k4, k5, k6⟩ := h3
              refine ⟨cs, T, fr, k1, k2, by rw [List.length_take]; omega, k4, ?_, k6⟩
              have h10 : PV.cellsL l = PV.cellsL (l.take n) ++ PV.cellsL (l.drop n) := by rw [← PV.cellsL_append, List.take_append_drop]
              have h11 : cs.toList.take (PV.cellsL (l.take n)).length = ((cs.toList.take (PV.cellsL l).length)).take (PV.cellsL (l.take n)).length := by
                rw [List.take_take, Nat.min_eq_left (by rw [h10, List.length_append]; omega)]
              rw [h11, k5, h10, List.take_left' rfl]⟩
          (fun b c h => Nat.le_trans hW (hc.ge id _ b c hl' h)) hne
        refine ⟨upd φ site (φ' id), ⟨g1, fun j y b c q1 q2 q3 => ?_⟩, g2, ?_, rfl, rfl⟩
        · simp only [addF] at q1
          by_cases hj : j = site
          · subst hj
            rw [upd_same] at q3
            exact .inr ⟨id, by simp [AV.refs], _, c, hl', by simp, q3⟩
          · rw [upd_ne _ _ hj] at q1 q3
            rcases hT.old j y b c q1 q2 q3 with h | ⟨k, hk, h⟩
            · exact .inl h
            · exact .inr ⟨k, by simp [hk], h⟩
        · simp only [addF, Rel, upd_same]
          have hlen : (l.take n).length = n := by rw [List.length_take]; omega
          cases hφ : φ' id with
          | none =>
            rw [hφ] at hx
            obtain ⟨rfl, rfl⟩ := hx
            exact ⟨rfl, by simp⟩
          | some p =>
            obtain ⟨b, cap⟩ := p
            rw [hφ] at hx
            obtain ⟨ad, c, rfl, r1, r2, r3⟩ := hx
            have r3 : ad = ⟨b, 0, none⟩ := by
              rcases r3 with r3 | ⟨_, r3⟩
              · simpa using r3
              · exact absurd rfl r3
            subst r3
            exact ⟨c, by rw [hlen], by omega, by rw [hlen]; exact r2⟩
      · cases h
    · cases ht
  · cases ht

theorem addF_none {fid : Nat → Nat} : ∀ (d : Delta) (A B : HeapF), (∀ j, A (fid j) = none → B (fid j) = none) → ∀ j, addF d A (fid j) = none → addF d B (fid j) = none := by
  intro d
  induction d with
  | nil => intro A B h; exact h
  | cons e d ih =>
    intro A B h
    obtain ⟨i, b⟩ := e
    simp only [addF]
    refine ih _ _ fun j hj => ?_
    unfold upd at hj ⊢
    split at hj
    · cases hj
    · rename_i hne; rw [if_neg hne]; exact h j hj

theorem adoptL_ok {w' : World} {φ' : Phi} {H' : HeapF} (hc : HSim w φ' H' w') (hW : W.heap.size ≤ w.heap.size) {fid : Nat → Nat} : ∀ {gs xs rs ys : List AV} {vs : List Value} {d : Delta} {site : Nat} {used : List Nat} {φ : Phi} {H L : HeapF},
    Took W w φ' H' w' used φ H → (∀ s, L (fid s) = none → H (fid s) = none) → RelL w φ' H' xs vs → toldL H' gs xs = some rs → (∀ k ∈ AV.refsL xs, k ∉ used) → (AV.refsL xs).Nodup → adoptL fid L site rs = some (ys, d) →
    ∃ φ2, Took W w φ' H' w' (AV.refsL xs ++ used) φ2 (addF d H) ∧ HExt φ H φ2 (addF d H) ∧ RelL W φ2 (addF d H) ys vs ∧ (∀ y ∈ ys, y.stays = true) ∧ (∀ s, addF d L (fid s) = none → addF d H (fid s) = none)
  | gs, [], rs, ys, vs, d, site, used, φ, H, L, hT, hL, hr, ht, hu, hn, h => by
    simp only [toldL, Option.some.injEq] at ht
    subst ht
    simp only [adoptL, Option.some.injEq, Prod.mk.injEq] at h
    obtain ⟨rfl, rfl⟩ := h
    cases vs with
    | nil => exact ⟨φ, by simpa [AV.refsL, addF] using hT, HExt.refl _ _, by simp [RelL], by simp, hL⟩
    | cons v vs => simp [RelL] at hr
  | gs, x :: xs, rs, ys, vs, d, site, used, φ, H, L, hT, hL, hr, ht, hu, hn, h => by
    cases vs with
    | nil => simp [RelL] at hr
    | cons v vs =>
      simp only [RelL] at hr
      simp only [toldL] at ht
      split at ht
      · rename_i r hr1
        split at ht
        · rename_i rs' hrs
          cases ht
          simp only [adoptL] at h
          split at h
          · rename_i y d1 hy
            split at h
            · rename_i ys' d2 hys
              cases h
              simp only [AV.refsL] at hu hn ⊢
              obtain ⟨φ1, k1, k2, k3, k4, _⟩ := adopt1_ok hc hT hW (hL site) hr.1 hr1 (fun k hk => hu k (by simp [hk])) hy
              have hL1 : ∀ s, addF d1 L (fid s) = none → addF d1 H (fid s) = none := by
                intro s hs
                have key : ∀ (d : Delta) (A B : HeapF), (∀ j, A (fid j) = none → B (fid j) = none) → ∀ j, addF d A (fid j) = none → addF d B (fid j) = none := by
                  intro d
                  induction d with
                  | nil => intro A B h; exact h
                  | cons e d ih =>
                    intro A B h
                    obtain ⟨i, b⟩ := e
                    simp only [addF]
                    refine ih _ _ fun j hj => ?_
                    unfold upd at hj ⊢
                    split at hj
                    · cases hj
                    · rename_i hne; rw [if_neg hne]; exact h j hj
                exact key d1 L H hL s hs
              obtain ⟨φ2, q1, q2, q3, q4, q5⟩ := adoptL_ok hc hW (used := x.refs ++ used) k1 hL1 hr.2 hrs (fun k hk hku => by
                rcases List.mem_append.1 hku with h | h
                · exact (List.nodup_append.1 hn).2.2 k h k hk rfl
                · exact hu k (by simp [hk]) h) (List.nodup_append.1 hn).2.1 hys
              rw [addF_appD, addF_appD]
              refine ⟨φ2, ⟨q1.sim, fun j y b c a1 a2 a3 => ?_⟩, k2.trans q2, ?_, ?_, q5⟩
              · rcases q1.old j y b c a1 a2 a3 with h | ⟨k, hk, h⟩
                · exact .inl h
                · exact .inr ⟨k, by simp at hk ⊢; rcases hk with h | h | h <;> simp [h], h⟩
              · simp only [RelL]
                exact ⟨Rel.mono q2 _ _ k3, q3⟩
              · intro z hz
                rcases List.mem_cons.1 hz with rfl | hz
                · exact k4
                · exact q4 z hz
            · cases h
          · cases h
        · cases ht
      · cases ht

theorem toldT_cons {H' : HeapF} {x : AV} {gs xs rs : List AV} (hx : ∀ l, x ≠ .st l) (h : toldT H' gs (x :: xs) = some rs) : ∃ r rs', told1 H' (hd1 gs) x = some r ∧ toldT H' (tl1 gs) xs = some rs' ∧ rs = r :: rs' := by
  cases x <;> first
    | exact absurd rfl (hx _)
    | (simp only [toldT] at h
       split at h
       · rename_i r hr
         split at h
         · rename_i rs' h'
           cases h
           exact ⟨r, rs', hr, h', rfl⟩
         · cases h
       · cases h)

theorem adoptT_cons {fid : Nat → Nat} {L : HeapF} {site : Nat} {x : AV} {xs ys : List AV} {d : Delta} (hx : ∀ l, x ≠ .st l) (h : adoptT fid L site (x :: xs) = some (ys, d)) :
    ∃ y ys' d1 d2, adopt1 L (fid site) x = some (y, d1) ∧ adoptT fid (addF d1 L) (site + 1) xs = some (ys', d2) ∧ ys = y :: ys' ∧ d = appD d1 d2 := by
  cases x <;> first
    | exact absurd rfl (hx _)
    | (simp only [adoptT] at h
       split at h
       · rename_i y d1 hy
         split at h
         · rename_i ys' d2 h'
           cases h
           exact ⟨y, ys', d1, d2, hy, h', rfl, rfl⟩
         · cases h
       · cases h)

theorem adopt_one {fid : Nat → Nat} {L : HeapF} {site : Nat} {x y : AV} {d : Delta} (h1 : ∀ l, x ≠ .tup l) (h2 : ∀ l, x ≠ .st l) (h : adopt L fid site x = some (y, d)) : adopt1 L (fid site) x = some (y, d) := by
  cases x <;> first
    | exact absurd rfl (h1 _)
    | exact absurd rfl (h2 _)
    | exact h

theorem told1_plain {H' : HeapF} {x r g : AV} (h : told1 H' g x = some r) : (∀ l, r ≠ .tup l) ∧ ∀ l, r ≠ .st l := by
  unfold told1 at h
  constructor <;> intro l e <;> subst e <;> split at h <;> first | (cases h; done) | (split at h <;> cases h) | (unfold toldN at h; split at h <;> cases h)

theorem adoptT_ok {w' : World} {φ' : Phi} {H' : HeapF} (hc : HSim w φ' H' w') (hW : W.heap.size ≤ w.heap.size) {fid : Nat → Nat} : ∀ {gs xs rs ys : List AV} {vs : List Value} {d : Delta} {site : Nat} {used : List Nat} {φ : Phi} {H L : HeapF},
    Took W w φ' H' w' used φ H → (∀ s, L (fid s) = none → H (fid s) = none) → RelL w φ' H' xs vs → toldT H' gs xs = some rs → (∀ k ∈ AV.refsL xs, k ∉ used) → (AV.refsL xs).Nodup → adoptT fid L site rs = some (ys, d) →
    ∃ φ2, Took W w φ' H' w' (AV.refsL xs ++ used) φ2 (addF d H) ∧ HExt φ H φ2 (addF d H) ∧ RelL W φ2 (addF d H) ys vs
  | gs, [], rs, ys, vs, d, site, used, φ, H, L, hT, hL, hr, ht, hu, hn, h => by
    simp only [toldT, Option.some.injEq] at ht
    subst ht
    simp only [adoptT, Option.some.injEq, Prod.mk.injEq] at h
    obtain ⟨rfl, rfl⟩ := h
    cases vs with
    | nil => exact ⟨φ, by simpa [AV.refsL, addF] using hT, HExt.refl _ _, by simp [RelL]⟩
    | cons v vs => simp [RelL] at hr
  | gs, x :: xs, rs, ys, vs, d, site, used, φ, H, L, hT, hL, hr, ht, hu, hn, h => by
    cases vs with
    | nil => simp [RelL] at hr
    | cons v vs =>
      simp only [RelL] at hr
      simp only [AV.refsL] at hu hn ⊢
      have hnd := List.nodup_append.1 hn
      by_cases hst : ∃ l, x = .st l
      · obtain ⟨l, rfl⟩ := hst
        simp only [toldT] at ht
        split at ht
        · rename_i m hm
          split at ht
          · rename_i rs' hrs
            cases ht
            simp only [adoptT] at h
            split at h
            · rename_i m' d1 hy
              split at h
              · rename_i ys' d2 hys
                cases h
                have hx := hr.1
                simp only [Rel] at hx
                obtain ⟨us, u1, u2, rfl⟩ := hx
                simp only [AV.refs] at hu hn hnd ⊢
                obtain ⟨φ1, k1, k2, k3, k4, k5⟩ := adoptL_ok hc hW hT hL u1 hm (fun k hk => hu k (by simp [hk])) hnd.1 hy
                obtain ⟨φ2, q1, q2, q3⟩ := adoptT_ok hc hW (used := AV.refsL l ++ used) k1 k5 hr.2 hrs (fun k hk hku => by
                  rcases List.mem_append.1 hku with h | h
                  · exact hnd.2.2 k h k hk rfl
                  · exact hu k (by simp [hk]) h) hnd.2.1 hys
                rw [addF_appD]
                refine ⟨φ2, ⟨q1.sim, fun j y b c a1 a2 a3 => ?_⟩, k2.trans q2, ?_⟩
                · rcases q1.old j y b c a1 a2 a3 with h | ⟨k, hk, h⟩
                  · exact .inl h
                  · exact .inr ⟨k, by simp at hk ⊢; rcases hk with h | h | h <;> simp [h], h⟩
                · simp only [RelL]
                  refine ⟨Rel.mono q2 _ _ ?_, q3⟩
                  unfold Rel
                  exact ⟨us, k3, k4, rfl⟩
              · cases h
            · cases h
          · cases ht
        · cases ht
      · obtain ⟨r, rs', hr1, hrs, rfl⟩ := toldT_cons (fun l e => hst ⟨l, e⟩) ht
        obtain ⟨y, ys', d1, d2, hy, hys, rfl, rfl⟩ := adoptT_cons (told1_plain hr1).2 h
        obtain ⟨φ1, k1, k2, k3, k4, _⟩ := adopt1_ok hc hT hW (hL site) hr.1 hr1 (fun k hk => hu k (by simp [hk])) hy
        obtain ⟨φ2, q1, q2, q3⟩ := adoptT_ok hc hW (used := x.refs ++ used) k1 (addF_none d1 L H hL) hr.2 hrs (fun k hk hku => by
          rcases List.mem_append.1 hku with h | h
          · exact hnd.2.2 k h k hk rfl
          · exact hu k (by simp [hk]) h) hnd.2.1 hys
        rw [addF_appD]
        refine ⟨φ2, ⟨q1.sim, fun j y b c a1 a2 a3 => ?_⟩, k2.trans q2, ?_⟩
        · rcases q1.old j y b c a1 a2 a3 with h | ⟨k, hk, h⟩
          · exact .inl h
          · exact .inr ⟨k, by simp at hk ⊢; rcases hk with h | h | h <;> simp [h], h⟩
        · simp only [RelL]
          exact ⟨Rel.mono q2 _ _ k3, q3⟩

theorem memN_iff {n : Nat} {l : List Nat} : memN n l = true ↔ n ∈ l := by
  induction l with
  | nil => simp [memN]
  | cons m l ih =>
    simp only [memN]
    cases hb : Nat.beq n m with
    | true => simp [Nat.eq_of_beq_eq_true hb]
    | false =>
      have : n ≠ m := fun e => by rw [e, Nat.beq_refl] at hb; cases hb
      simp [ih, this]

theorem nodupN_iff {l : List Nat} (h : nodupN l = true) : l.Nodup := by
  induction l with
  | nil => simp
  | cons n l ih =>
    simp only [nodupN] at h
    cases hb : memN n l with
    | true => simp [hb] at h
    | false =>
      rw [hb] at h
      have : n ∉ l := fun hm => by rw [← memN_iff, hb] at hm; cases hm
      exact List.nodup_cons.2 ⟨this, ih h⟩

/-- What a callee hands back, taken over by the caller. -/
theorem adopt_ok {w' : World} {φ' : Phi} {H' : HeapF} (hS : HSim W φ H w) (hc : HSim w φ' H' w') {fid : Nat → Nat} (hL : ∀ s, L (fid s) = none → H (fid s) = none) {site : Nat} {x r y g : AV} {v : Value} {d : Delta}
    (hx : Rel w φ' H' x v) (ht : told H' g x = some r) (h : adopt L fid site r = some (y, d)) :
    ∃ φ2, HSim W φ2 (addF d H) w' ∧ HExt φ H φ2 (addF d H) ∧ Rel W φ2 (addF d H) y v := by
  have hT : Took W w φ' H' w' [] φ H := ⟨hS.later hc.below, fun j y b c h1 h2 h3 => .inl ((hS.blk j y h1).lt h2 h3)⟩
  have hW := hS.below.size
  unfold told at ht
  split at ht
  · rename_i hn
    have hn := nodupN_iff hn
    split at ht
    · rename_i l
      split at ht
      · rename_i m hm
        cases ht
        simp only [adopt] at h
        split at h
        · rename_i m' d' hy
          cases h
          simp only [Rel] at hx
          obtain ⟨vs, h1, rfl⟩ := hx
          simp only [AV.refs] at hn
          obtain ⟨φ2, k1, k2, k3⟩ := adoptT_ok hc hW hT hL h1 hm (by simp) hn hy
          exact ⟨φ2, k1.sim, k2, by unfold Rel; exact ⟨vs, k3, rfl⟩⟩
        · cases h
      · cases ht
    · rename_i l
      split at ht
      · rename_i m hm
        cases ht
        simp only [adopt] at h
        split at h
        · rename_i m' d' hy
          cases h
          simp only [Rel] at hx
          obtain ⟨vs, h1, h2, rfl⟩ := hx
          simp only [AV.refs] at hn
          obtain ⟨φ2, k1, k2, k3, k4, _⟩ := adoptL_ok hc hW hT hL h1 hm (by simp) hn hy
          exact ⟨φ2, k1.sim, k2, by unfold Rel; exact ⟨vs, k3, k4, rfl⟩⟩
        · cases h
      · cases ht
    · rename_i hnt hns
      have h' := adopt_one (told1_plain ht).1 (told1_plain ht).2 h
      obtain ⟨φ2, k1, k2, k3, _⟩ := adopt1_ok hc hT hW (hL site) hx ht (by simp) h'
      exact ⟨φ2, k1.sim, k2, k3⟩
  · cases ht

end Go.Proofs.Ytmngcmfcbfkimaa.AM
