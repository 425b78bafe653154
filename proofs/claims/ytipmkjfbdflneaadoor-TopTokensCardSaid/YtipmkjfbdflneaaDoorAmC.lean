/- An abstract machine for walks, and its soundness (three of three texts). -/
import Derived.Test.YtipmkjfbdflneaaDoorAmB
import Derived.OrdersIn
import Derived.TacticsIn
import Derived.RangeFuncRecord
import Derived.RangeFuncCalls
import Derived.Laws.Sem
import Derived.OpenShut
import Derived.ProofKit
import Derived.Below
import Derived.RangeFuncLeaves
namespace Go.Proofs.YtipmkjfbdflneaaDoor.AM
open Go Go.RowKit

variable {P : Program} {X : Ctx} {W : World} {φ : Phi} {H L : HeapF} {w : World} {ρ : Nat → AV} {a : Act}

def noPhi : Phi := fun _ => none
def noHeap : HeapF := fun _ => none

/-- The function is one of the program's own, with a body. -/
def FnOK (P : Program) (f : Nat) : Prop := ∃ fn c, P.funcs[f]? = some fn ∧ fn.body = some c ∧ (fn.name == "runtime.NumGoroutine") = false

/-- The contract of a Go function in plain data: called with values that read so, it returns, nothing that was there has turned, and its result, in memory of its own, reads so. -/
def Fn (P : Program) (G : Globs) (f : Nat) (as : List AV) (r : AV) : Prop :=
  FnOK P f ∧ ∀ w vs, GlobOK w G → RelL w noPhi noHeap as vs → Calls P f vs.toArray w fun e w' =>
    ∃ v φ H x, e = .returned v ∧ HSim w φ H w' ∧ Rel w φ H x v ∧ told H r x = some r

theorem addF_appD (d e : Delta) (H : HeapF) : addF (appD d e) H = addF e (addF d H) := by
  induction d generalizing H with
  | nil => rfl
  | cons x d ih => obtain ⟨i, b⟩ := x; simp only [appD, addF, ih]

/-- A block that nobody has yet, under a new name. -/
theorem HSim.put {id : Nat} {blk : Blk} {pc : Option (Nat × Nat)} (h : HSim W φ H w) (hn : H id = none)
    (hok : BlkOK W (upd φ id pc) (upd H id (some blk)) w id blk) (hge : ∀ b c, pc = some (b, c) → W.heap.size ≤ b)
    (hdis : ∀ b c, pc = some (b, c) → ∀ j y c', H j = some y → y ≠ .dead → φ j = some (b, c') → False) :
    HSim W (upd φ id pc) (upd H id (some blk)) w ∧ HExt φ H (upd φ id pc) (upd H id (some blk)) := by
  have he : HExt φ H (upd φ id pc) (upd H id (some blk)) := fun i x hx => by
    have hne : i ≠ id := fun e => by rw [e, hn] at hx; cases hx
    exact ⟨upd_ne _ _ hne, x, (upd_ne _ _ hne).trans hx, BlkLe.refl x⟩
  refine ⟨⟨h.below, fun i x hx => ?_, fun i x b c hx hφ => ?_, fun i j x y b c c' hx hy dx dy hij hi hj => ?_⟩, he⟩
  · by_cases hi : i = id
    · subst hi
      rw [upd_same] at hx
      cases hx
      exact hok
    · rw [upd_ne _ _ hi] at hx
      exact (h.blk i x hx).keep he (upd_ne _ _ hi) (fun _ _ _ _ => rfl)
  · by_cases hi : i = id
    · subst hi
      rw [upd_same] at hφ
      exact hge b c hφ
    · rw [upd_ne _ _ hi] at hx hφ
      exact h.ge i x b c hx hφ
  · by_cases hi' : i = id
    · subst hi'
      rw [upd_same] at hi
      have hj' : j ≠ i := fun e => hij e.symm
      rw [upd_ne _ _ hj'] at hy hj
      exact hdis b c hi j y c' hy dy hj
    · rw [upd_ne _ _ hi'] at hx hi
      by_cases hj' : j = id
      · subst hj'
        rw [upd_same] at hj
        exact hdis b c' hj i x c hx dx hi
      · rw [upd_ne _ _ hj'] at hy hj
        exact h.dis i j x y b c c' hx hy dx dy hij hi hj

/-- A caller's heap over a callee's last memory: its blocks are old ones, or those of the callee's results that it has taken over. -/
structure Took (W w : World) (φ' : Phi) (H' : HeapF) (w' : World) (used : List Nat) (φ : Phi) (H : HeapF) : Prop where
  sim : HSim W φ H w'
  old : ∀ j y b c, H j = some y → y ≠ .dead → φ j = some (b, c) → b < w.heap.size ∨ ∃ k ∈ used, ∃ z c', H' k = some z ∧ z ≠ .dead ∧ φ' k = some (b, c')

theorem adopt1_ok {w' : World} {φ' : Phi} {H' : HeapF} {used : List Nat} (hc : HSim w φ' H' w') (hT : Took W w φ' H' w' used φ H) (hW : W.heap.size ≤ w.heap.size) {site : Nat} (hL : L site = none → H site = none)
    {x r y g : AV} {v : Value} {d : Delta} (hx : Rel w φ' H' x v) (ht : told1 H' g x = some r) (hu : ∀ k ∈ x.refs, k ∉ used) (h : adopt1 L site r = some (y, d)) :
    ∃ φ2, Took W w φ' H' w' (x.refs ++ used) φ2 (addF d H) ∧ HExt φ H φ2 (addF d H) ∧ Rel W φ2 (addF d H) y v ∧ y.stays = true ∧ y.isAgg = r.isAgg := by
  unfold told1 at ht
  split at ht
  · cases ht
    simp only [adopt1, Option.some.injEq, Prod.mk.injEq] at h
    obtain ⟨rfl, rfl⟩ := h
    refine ⟨φ, ⟨hT.sim, fun j y b c h1 h2 h3 => ?_⟩, HExt.refl _ _, ?_, rfl, rfl⟩
    · rcases hT.old j y b c h1 h2 h3 with h | ⟨k, hk, h⟩
      · exact .inl h
      · exact .inr ⟨k, by simp [hk], h⟩
    · simpa [Rel] using hx
  · obtain ⟨sh, rfl⟩ : ∃ sh, r = .ro sh [] := by
      unfold toldN at ht
      split at ht <;> cases ht <;> exact ⟨_, rfl⟩
    simp only [adopt1] at h
    split at h
    · rename_i hl
      cases h
      simp only [Rel] at hx
      subst hx
      obtain ⟨g1, g2⟩ := hT.sim.put (id := site) (blk := .els true sh []) (pc := none) (hL hl) ⟨trivial, trivial, by rw [upd_same]⟩ (fun b c h => by cases h) (fun b c h => by cases h)
      refine ⟨upd φ site none, ⟨g1, fun j y b c h1 h2 h3 => ?_⟩, g2, ?_, rfl, rfl⟩
      · simp only [addF] at h1
        by_cases hj : j = site
        · subst hj; rw [upd_same] at h3; cases h3
        · rw [upd_ne _ _ hj] at h1 h3
          rcases hT.old j y b c h1 h2 h3 with h | ⟨k, hk, h⟩
          · exact .inl h
          · exact .inr ⟨k, by simp [hk], h⟩
      · simp only [addF, Rel, upd_same]
        trivial
    · cases h
  · rename_i id
    split at ht
    · rename_i s l hl'
      cases ht
      simp only [adopt1] at h
      split at h
      · rename_i hl
        cases h
        have hbk := hc.blk _ _ hl'
        obtain ⟨h1, h2, h3⟩ := hbk
        simp only [Rel, hl'] at hx
        have hne : ∀ b c, φ' id = some (b, c) → ∀ j y c', H j = some y → y ≠ .dead → φ j = some (b, c') → False := fun b c hb j y c' k1 k2 k3 => by
          have hge := hc.ge id _ b c hl' hb
          rcases hT.old j y b c' k1 k2 k3 with h | ⟨k, hk, z, c2, q1, q2, q3⟩
          · omega
          · have hne : id ≠ k := fun e => hu id (by simp [AV.refs]) (e ▸ hk)
            exact hc.dis id k _ z b c c2 hl' q1 (by simp) q2 hne hb q3
        obtain ⟨g1, g2⟩ := hT.sim.put (id := site) (blk := .els true s l) (pc := φ' id) (hL hl)
          ⟨h1, h2, by rw [upd_same]; exact h3⟩
          (fun b c h => Nat.le_trans hW (hc.ge id _ b c hl' h)) hne
        refine ⟨upd φ site (φ' id), ⟨g1, fun j y b c q1 q2 q3 => ?_⟩, g2, ?_, rfl, rfl⟩
        · simp only [addF] at q1
          by_cases hj : j = site
          · subst hj
            rw [upd_same] at q3
            exact .inr ⟨id, by simp [AV.refs], _, c, hl', by simp, q3⟩
          · rw [upd_ne _ _ hj] at q1 q3
            rcases hT.old j y b c q1 q2 q3 with h | ⟨k, hk, h⟩
            · exact .inl h
            · exact .inr ⟨k, by simp [hk], h⟩
        · simp only [addF, Rel, upd_same]
          exact hx
      · cases h
    · cases ht
  · rename_i id n
    split at ht
    · rename_i s l hl'
      cases ht
      simp only [adopt1] at h
      split at h
      · rename_i hl
        cases h
        have hbk := hc.blk _ _ hl'
        obtain ⟨h1, h2, h3⟩ := hbk
        simp only [Rel, hl'] at hx
        obtain ⟨hn, hx⟩ := hx
        have hne : ∀ b c, φ' id = some (b, c) → ∀ j y c', H j = some y → y ≠ .dead → φ j = some (b, c') → False := fun b c hb j y c' k1 k2 k3 => by
          have hge := hc.ge id _ b c hl' hb
          rcases hT.old j y b c' k1 k2 k3 with h | ⟨k, hk, z, c2, q1, q2, q3⟩
          · omega
          · have hne : id ≠ k := fun e => hu id (by simp [AV.refs]) (e ▸ hk)
            exact hc.dis id k _ z b c c2 hl' q1 (by simp) q2 hne hb q3
        obtain ⟨g1, g2⟩ := hT.sim.put (id := site) (blk := .els true s (l.take n)) (pc := φ' id) (hL hl)
          ⟨okL_take h1 n, allSh_take h2 n, by
            rw [upd_same]
            cases hφ : φ' id with
            | none => rw [hφ] at h3; simp only at h3 ⊢; rw [h3]; simp
            | some p =>
              obtain ⟨b, cap⟩ := p
              rw [hφ] at h3
              obtain ⟨cs, T, fr, k1, k2, k3, k4, k5, k6⟩ := h3
              refine ⟨cs, T, fr, k1, k2, by rw [List.length_take]; omega, k4, ?_, k6⟩
              have h10 : PV.cellsL l = PV.cellsL (l.take n) ++ PV.cellsL (l.drop n) := by rw [← PV.cellsL_append, List.take_append_drop]
              have h11 : cs.toList.take (PV.cellsL (l.take n)).length = ((cs.toList.take (PV.cellsL l).length)).take (PV.cellsL (l.take n)).length := by
                rw [List.take_take, Nat.min_eq_left (by rw [h10, List.length_append]; omega)]
              rw [h11, k5, h10, List.take_left' rfl]⟩
          (fun b c h => Nat.le_trans hW (hc.ge id _ b c hl' h)) hne
        refine ⟨upd φ site (φ' id), ⟨g1, fun j y b c q1 q2 q3 => ?_⟩, g2, ?_, rfl, rfl⟩
        · simp only [addF] at q1
          by_cases hj : j = site
          · subst hj
            rw [upd_same] at q3
            exact .inr ⟨id, by simp [AV.refs], _, c, hl', by simp, q3⟩
          · rw [upd_ne _ _ hj] at q1 q3
            rcases hT.old j y b c q1 q2 q3 with h | ⟨k, hk, h⟩
            · exact .inl h
            · exact .inr ⟨k, by simp [hk], h⟩
        · simp only [addF, Rel, upd_same]
          have hlen : (l.take n).length = n := by rw [List.length_take]; omega
          cases hφ : φ' id with
          | none =>
            rw [hφ] at hx
            obtain ⟨rfl, rfl⟩ := hx
            exact ⟨rfl, by simp⟩
          | some p =>
            obtain ⟨b, cap⟩ := p
            rw [hφ] at hx
            obtain ⟨ad, c, rfl, r1, r2, r3⟩ := hx
            have r3 : ad = ⟨b, 0, none⟩ := by
              rcases r3 with r3 | ⟨_, r3⟩
              · simpa using r3
              · exact absurd rfl r3
            subst r3
            exact ⟨c, by rw [hlen], by omega, by rw [hlen]; exact r2⟩
      · cases h
    · cases ht
  · cases ht

theorem addF_none {fid : Nat → Nat} : ∀ (d : Delta) (A B : HeapF), (∀ j, A (fid j) = none → B (fid j) = none) → ∀ j, addF d A (fid j) = none → addF d B (fid j) = none := by
  intro d
  induction d with
  | nil => intro A B h; exact h
  | cons e d ih =>
    intro A B h
    obtain ⟨i, b⟩ := e
    simp only [addF]
    refine ih _ _ fun j hj => ?_
    unfold upd at hj ⊢
    split at hj
    · cases hj
    · rename_i hne; rw [if_neg hne]; exact h j hj

theorem adoptL_ok {w' : World} {φ' : Phi} {H' : HeapF} (hc : HSim w φ' H' w') (hW : W.heap.size ≤ w.heap.size) {fid : Nat → Nat} : ∀ {gs xs rs ys : List AV} {vs : List Value} {d : Delta} {site : Nat} {used : List Nat} {φ : Phi} {H L : HeapF},
    Took W w φ' H' w' used φ H → (∀ s, L (fid s) = none → H (fid s) = none) → RelL w φ' H' xs vs → toldL H' gs xs = some rs → (∀ k ∈ AV.refsL xs, k ∉ used) → (AV.refsL xs).Nodup → adoptL fid L site rs = some (ys, d) →
    ∃ φ2, Took W w φ' H' w' (AV.refsL xs ++ used) φ2 (addF d H) ∧ HExt φ H φ2 (addF d H) ∧ RelL W φ2 (addF d H) ys vs ∧ (∀ y ∈ ys, y.stays = true) ∧ (∀ s, addF d L (fid s) = none → addF d H (fid s) = none)
  | gs, [], rs, ys, vs, d, site, used, φ, H, L, hT, hL, hr, ht, hu, hn, h => by
    simp only [toldL, Option.some.injEq] at ht
    subst ht
    simp only [adoptL, Option.some.injEq, Prod.mk.injEq] at h
    obtain ⟨rfl, rfl⟩ := h
    cases vs with
    | nil => exact ⟨φ, by simpa [AV.refsL, addF] using hT, HExt.refl _ _, by simp [RelL], by simp, hL⟩
    | cons v vs => simp [RelL] at hr
  | gs, x :: xs, rs, ys, vs, d, site, used, φ, H, L, hT, hL, hr, ht, hu, hn, h => by
    cases vs with
    | nil => simp [RelL] at hr
    | cons v vs =>
      simp only [RelL] at hr
      simp only [toldL] at ht
      split at ht
      · rename_i r hr1
        split at ht
        · rename_i rs' hrs
          cases ht
          simp only [adoptL] at h
          split at h
          · rename_i y d1 hy
            split at h
            · rename_i ys' d2 hys
              cases h
              simp only [AV.refsL] at hu hn ⊢
              obtain ⟨φ1, k1, k2, k3, k4, _⟩ := adopt1_ok hc hT hW (hL site) hr.1 hr1 (fun k hk => hu k (by simp [hk])) hy
              have hL1 : ∀ s, addF d1 L (fid s) = none → addF d1 H (fid s) = none := by
                intro s hs
                have key : ∀ (d : Delta) (A B : HeapF), (∀ j, A (fid j) = none → B (fid j) = none) → ∀ j, addF d A (fid j) = none → addF d B (fid j) = none := by
                  intro d
                  induction d with
                  | nil => intro A B h; exact h
                  | cons e d ih =>
                    intro A B h
                    obtain ⟨i, b⟩ := e
                    simp only [addF]
                    refine ih _ _ fun j hj => ?_
                    unfold upd at hj ⊢
                    split at hj
                    · cases hj
                    · rename_i hne; rw [if_neg hne]; exact h j hj
                exact key d1 L H hL s hs
              obtain ⟨φ2, q1, q2, q3, q4, q5⟩ := adoptL_ok hc hW (used := x.refs ++ used) k1 hL1 hr.2 hrs (fun k hk hku => by
                rcases List.mem_append.1 hku with h | h
                · exact (List.nodup_append.1 hn).2.2 k h k hk rfl
                · exact hu k (by simp [hk]) h) (List.nodup_append.1 hn).2.1 hys
              rw [addF_appD, addF_appD]
              refine ⟨φ2, ⟨q1.sim, fun j y b c a1 a2 a3 => ?_⟩, k2.trans q2, ?_, ?_, q5⟩
              · rcases q1.old j y b c a1 a2 a3 with h | ⟨k, hk, h⟩
                · exact .inl h
                · exact .inr ⟨k, by simp at hk ⊢; rcases hk with h | h | h <;> simp [h], h⟩
              · simp only [RelL]
                exact ⟨Rel.mono q2 _ _ k3, q3⟩
              · intro z hz
                rcases List.mem_cons.1 hz with rfl | hz
                · exact k4
                · exact q4 z hz
            · cases h
          · cases h
        · cases ht
      · cases ht

theorem toldT_cons {H' : HeapF} {x : AV} {gs xs rs : List AV} (hx : ∀ l, x ≠ .st l) (h : toldT H' gs (x :: xs) = some rs) : ∃ r rs', told1 H' (hd1 gs) x = some r ∧ toldT H' (tl1 gs) xs = some rs' ∧ rs = r :: rs' := by
  cases x <;> first
    | exact absurd rfl (hx _)
    | (simp only [toldT] at h
       split at h
       · rename_i r hr
         split at h
         · rename_i rs' h'
           cases h
           exact ⟨r, rs', hr, h', rfl⟩
         · cases h
       · cases h)

theorem adoptT_cons {fid : Nat → Nat} {L : HeapF} {site : Nat} {x : AV} {xs ys : List AV} {d : Delta} (hx : ∀ l, x ≠ .st l) (h : adoptT fid L site (x :: xs) = some (ys, d)) :
    ∃ y ys' d1 d2, adopt1 L (fid site) x = some (y, d1) ∧ adoptT fid (addF d1 L) (site + 1) xs = some (ys', d2) ∧ ys = y :: ys' ∧ d = appD d1 d2 := by
  cases x <;> first
    | exact absurd rfl (hx _)
    | (simp only [adoptT] at h
       split at h
       · rename_i y d1 hy
         split at h
         · rename_i ys' d2 h'
           cases h
           exact ⟨y, ys', d1, d2, hy, h', rfl, rfl⟩
         · cases h
       · cases h)

theorem adopt_one {fid : Nat → Nat} {L : HeapF} {site : Nat} {x y : AV} {d : Delta} (h1 : ∀ l, x ≠ .tup l) (h2 : ∀ l, x ≠ .st l) (h : adopt L fid site x = some (y, d)) : adopt1 L (fid site) x = some (y, d) := by
  cases x <;> first
    | exact absurd rfl (h1 _)
    | exact absurd rfl (h2 _)
    | exact h

theorem told1_plain {H' : HeapF} {x r g : AV} (h : told1 H' g x = some r) : (∀ l, r ≠ .tup l) ∧ ∀ l, r ≠ .st l := by
  unfold told1 at h
  constructor <;> intro l e <;> subst e <;> split at h <;> first | (cases h; done) | (split at h <;> cases h) | (unfold toldN at h; split at h <;> cases h)

theorem adoptT_ok {w' : World} {φ' : Phi} {H' : HeapF} (hc : HSim w φ' H' w') (hW : W.heap.size ≤ w.heap.size) {fid : Nat → Nat} : ∀ {gs xs rs ys : List AV} {vs : List Value} {d : Delta} {site : Nat} {used : List Nat} {φ : Phi} {H L : HeapF},
    Took W w φ' H' w' used φ H → (∀ s, L (fid s) = none → H (fid s) = none) → RelL w φ' H' xs vs → toldT H' gs xs = some rs → (∀ k ∈ AV.refsL xs, k ∉ used) → (AV.refsL xs).Nodup → adoptT fid L site rs = some (ys, d) →
    ∃ φ2, Took W w φ' H' w' (AV.refsL xs ++ used) φ2 (addF d H) ∧ HExt φ H φ2 (addF d H) ∧ RelL W φ2 (addF d H) ys vs
  | gs, [], rs, ys, vs, d, site, used, φ, H, L, hT, hL, hr, ht, hu, hn, h => by
    simp only [toldT, Option.some.injEq] at ht
    subst ht
    simp only [adoptT, Option.some.injEq, Prod.mk.injEq] at h
    obtain ⟨rfl, rfl⟩ := h
    cases vs with
    | nil => exact ⟨φ, by simpa [AV.refsL, addF] using hT, HExt.refl _ _, by simp [RelL]⟩
    | cons v vs => simp [RelL] at hr
  | gs, x :: xs, rs, ys, vs, d, site, used, φ, H, L, hT, hL, hr, ht, hu, hn, h => by
    cases vs with
    | nil => simp [RelL] at hr
    | cons v vs =>
      simp only [RelL] at hr
      simp only [AV.refsL] at hu hn ⊢
      have hnd := List.nodup_append.1 hn
      by_cases hst : ∃ l, x = .st l
      · obtain ⟨l, rfl⟩ := hst
        simp only [toldT] at ht
        split at ht
        · rename_i m hm
          split at ht
          · rename_i rs' hrs
            cases ht
            simp only [adoptT] at h
            split at h
            · rename_i m' d1 hy
              split at h
              · rename_i ys' d2 hys
                cases h
                have hx := hr.1
                simp only [Rel] at hx
                obtain ⟨us, u1, u2, rfl⟩ := hx
                simp only [AV.refs] at hu hn hnd ⊢
                obtain ⟨φ1, k1, k2, k3, k4, k5⟩ := adoptL_ok hc hW hT hL u1 hm (fun k hk => hu k (by simp [hk])) hnd.1 hy
                obtain ⟨φ2, q1, q2, q3⟩ := adoptT_ok hc hW (used := AV.refsL l ++ used) k1 k5 hr.2 hrs (fun k hk hku => by
                  rcases List.mem_append.1 hku with h | h
                  · exact hnd.2.2 k h k hk rfl
                  · exact hu k (by simp [hk]) h) hnd.2.1 hys
                rw [addF_appD]
                refine ⟨φ2, ⟨q1.sim, fun j y b c a1 a2 a3 => ?_⟩, k2.trans q2, ?_⟩
                · rcases q1.old j y b c a1 a2 a3 with h | ⟨k, hk, h⟩
                  · exact .inl h
                  · exact .inr ⟨k, by simp at hk ⊢; rcases hk with h | h | h <;> simp [h], h⟩
                · simp only [RelL]
                  refine ⟨Rel.mono q2 _ _ ?_, q3⟩
                  unfold Rel
                  exact ⟨us, k3, k4, rfl⟩
              · cases h
            · cases h
          · cases ht
        · cases ht
      · obtain ⟨r, rs', hr1, hrs, rfl⟩ := toldT_cons (fun l e => hst ⟨l, e⟩) ht
        obtain ⟨y, ys', d1, d2, hy, hys, rfl, rfl⟩ := adoptT_cons (told1_plain hr1).2 h
        obtain ⟨φ1, k1, k2, k3, k4, _⟩ := adopt1_ok hc hT hW (hL site) hr.1 hr1 (fun k hk => hu k (by simp [hk])) hy
        obtain ⟨φ2, q1, q2, q3⟩ := adoptT_ok hc hW (used := x.refs ++ used) k1 (addF_none d1 L H hL) hr.2 hrs (fun k hk hku => by
          rcases List.mem_append.1 hku with h | h
          · exact hnd.2.2 k h k hk rfl
          · exact hu k (by simp [hk]) h) hnd.2.1 hys
        rw [addF_appD]
        refine ⟨φ2, ⟨q1.sim, fun j y b c a1 a2 a3 => ?_⟩, k2.trans q2, ?_⟩
        · rcases q1.old j y b c a1 a2 a3 with h | ⟨k, hk, h⟩
          · exact .inl h
          · exact .inr ⟨k, by simp at hk ⊢; rcases hk with h | h | h <;> simp [h], h⟩
        · simp only [RelL]
          exact ⟨Rel.mono q2 _ _ k3, q3⟩

theorem memN_iff {n : Nat} {l : List Nat} : memN n l = true ↔ n ∈ l := by
  induction l with
  | nil => simp [memN]
  | cons m l ih =>
    simp only [memN]
    cases hb : Nat.beq n m with
    | true => simp [Nat.eq_of_beq_eq_true hb]
    | false =>
      have : n ≠ m := fun e => by rw [e, Nat.beq_refl] at hb; cases hb
      simp [ih, this]

theorem nodupN_iff {l : List Nat} (h : nodupN l = true) : l.Nodup := by
  induction l with
  | nil => simp
  | cons n l ih =>
    simp only [nodupN] at h
    cases hb : memN n l with
    | true => simp [hb] at h
    | false =>
      rw [hb] at h
      have : n ∉ l := fun hm => by rw [← memN_iff, hb] at hm; cases hm
      exact List.nodup_cons.2 ⟨this, ih h⟩

/-- What a callee hands back, taken over by the caller. -/
theorem adopt_ok {w' : World} {φ' : Phi} {H' : HeapF} (hS : HSim W φ H w) (hc : HSim w φ' H' w') {fid : Nat → Nat} (hL : ∀ s, L (fid s) = none → H (fid s) = none) {site : Nat} {x r y g : AV} {v : Value} {d : Delta}
    (hx : Rel w φ' H' x v) (ht : told H' g x = some r) (h : adopt L fid site r = some (y, d)) :
    ∃ φ2, HSim W φ2 (addF d H) w' ∧ HExt φ H φ2 (addF d H) ∧ Rel W φ2 (addF d H) y v := by
  have hT : Took W w φ' H' w' [] φ H := ⟨hS.later hc.below, fun j y b c h1 h2 h3 => .inl ((hS.blk j y h1).lt h2 h3)⟩
  have hW := hS.below.size
  unfold told at ht
  split at ht
  · rename_i hn
    have hn := nodupN_iff hn
    split at ht
    · rename_i l
      split at ht
      · rename_i m hm
        cases ht
        simp only [adopt] at h
        split at h
        · rename_i m' d' hy
          cases h
          simp only [Rel] at hx
          obtain ⟨vs, h1, rfl⟩ := hx
          simp only [AV.refs] at hn
          obtain ⟨φ2, k1, k2, k3⟩ := adoptT_ok hc hW hT hL h1 hm (by simp) hn hy
          exact ⟨φ2, k1.sim, k2, by unfold Rel; exact ⟨vs, k3, rfl⟩⟩
        · cases h
      · cases ht
    · rename_i l
      split at ht
      · rename_i m hm
        cases ht
        simp only [adopt] at h
        split at h
        · rename_i m' d' hy
          cases h
          simp only [Rel] at hx
          obtain ⟨vs, h1, h2, rfl⟩ := hx
          simp only [AV.refs] at hn
          obtain ⟨φ2, k1, k2, k3, k4, _⟩ := adoptL_ok hc hW hT hL h1 hm (by simp) hn hy
          exact ⟨φ2, k1.sim, k2, by unfold Rel; exact ⟨vs, k3, k4, rfl⟩⟩
        · cases h
      · cases ht
    · rename_i hnt hns
      have h' := adopt_one (told1_plain ht).1 (told1_plain ht).2 h
      obtain ⟨φ2, k1, k2, k3, _⟩ := adopt1_ok hc hT hW (hL site) hx ht (by simp) h'
      exact ⟨φ2, k1.sim, k2, k3⟩
  · cases ht

end Go.Proofs.YtipmkjfbdflneaaDoor.AM

namespace Go.Proofs.YtipmkjfbdflneaaDoor.AM
open Go Go.RowKit

variable {P : Program} {X : Ctx} {W : World} {φ : Phi} {H L : HeapF} {w : World} {ρ : Nat → AV} {a : Act}

/-- A call that goes on in the caller's memory. -/
def InlJ (P : Program) (X : Ctx) (f : Nat) (as : List AV) (h : Heap) (K : AV → Heap → Prop) : Prop :=
  FnOK P f ∧ ∀ W φ w vs, GlobOK W X.G → HSim W φ (find h) w → RelL W φ (find h) as vs → Calls P f vs.toArray w fun e w' =>
    ∃ v φ' h' r, e = .returned v ∧ HSim W φ' (find h') w' ∧ HExt φ (find h) φ' (find h') ∧ Rel W φ' (find h') r v ∧ K r h'

/-- Which activation is walked: a plain one; one that may range over functions; a round of such a loop. -/
inductive Md where
  | plain
  | marks
  | round (l : Nat)

def Md.fence : Md → Fence
  | .round l => Fence.wide.inRound l
  | _ => Fence.wide

theorem Md.fn (md : Md) (f : FuncId) : md.fence.fn f := by cases md <;> exact trivial
theorem Md.deep (md : Md) {p : Prop} : md.fence.depth.isSome = true → p := by cases md <;> exact nofun
theorem Md.room (md : Md) (n : Nat) : md.fence.room n := by cases md <;> exact nofun
theorem Md.calls {md : Md} {n : Nat} {P : Program} {f : FuncId} {args : Array Value} {w : World} {R : Ending → World → Prop} (h : Calls P f args w R) : CallsIn md.fence n P f args w R := by
  cases md with
  | round l => exact CallsIn.inRound l (callsIn_wide.2 h)
  | _ => exact callsIn_wide.2 h

theorem wpIn_of {md : Md} {o : Oper} {a : Act} {w : World} {C : Act → World → Prop} {Q : Exit → Act → World → Prop} (hd : ∀ c, o.op ≠ .defer c)
    (h : o.uponIn md.fence 0 P a C Q ((execOp a.eval o).run P w)) : o.wpIn md.fence 0 P a w C Q := by
  refine ⟨fun f _ => md.fn f, ?_⟩
  rw [Oper.semAt_eq _ _ _ hd]
  exact h

theorem callee_nd {o : Oper} {x : Nat × List AV} (h : callee X ρ o = some x) : ∀ c, o.op ≠ .defer c := fun c hc => by
  simp [callee, hc] at h
theorem yielder_nd {o : Oper} {x : Nat × List AV} (h : yielder X ρ o = some x) : ∀ c, o.op ≠ .defer c := fun c hc => by
  simp [yielder, hc] at h
theorem nilCmp_nd {o : Oper} {x : List PV × Bool} (h : nilCmp X ρ o = some x) : ∀ c, o.op ≠ .defer c := fun c hc => by
  simp [nilCmp, hc] at h
theorem opV_nd {o : Oper} {fid : Nat → Nat} {x : AV × Delta} (h : opV X ρ L fid o = some x) : ∀ c, o.op ≠ .defer c := fun c hc => by
  simp [opV, hc] at h

/-- A mark among an activation's deferred calls: the block of a range over a function. -/
def markOf (φ : Phi) (i : Nat) : Deferred := { target := .collected ((φ i).getD (0, 0)).1, args := #[] }

def Marks (φ : Phi) (H : HeapF) (ds : List Deferred) : Prop :=
  ∃ ids : List Nat, ids.Nodup ∧ (∀ i ∈ ids, H i = some .mk) ∧ ds = ids.map (markOf φ)

def DefOK (md : Md) (φ : Phi) (H : HeapF) (ds : List Deferred) : Prop :=
  match md with
  | .marks => Marks φ H ds
  | _ => ds = []

theorem DefOK.mono {md : Md} {φ' : Phi} {H' : HeapF} {ds : List Deferred} (h : DefOK md φ H ds) (he : HExt φ H φ' H') : DefOK md φ' H' ds := by
  cases md with
  | marks =>
    obtain ⟨ids, h1, h2, h3⟩ := h
    refine ⟨ids, h1, fun i hi => ?_, ?_⟩
    · obtain ⟨_, b, hb, hle⟩ := he i _ (h2 i hi)
      rw [hb]
      cases b <;> simp only [BlkLe] at hle <;> rfl
    · rw [h3]
      refine List.map_congr_left fun i hi => ?_
      obtain ⟨hp, _⟩ := he i _ (h2 i hi)
      simp [markOf, hp]
  | _ => exact h

theorem DefOK.nil {md : Md} : DefOK md φ H [] := by
  cases md with
  | marks => exact ⟨[], List.nodup_nil, by simp, rfl⟩
  | _ => exact rfl

structure Sim (W : World) (φ : Phi) (H : HeapF) (ρ : Nat → AV) (md : Md) (n : Nat) (a : Act) (w : World) : Prop where
  heap : HSim W φ H w
  env : EnvOK W φ H ρ a
  size : a.tmps.size = n
  defers : DefOK md φ H a.defers

/-- The call of what a range over a function hands to its iterator: a round, in the caller's memory. -/
def YldJ (P : Program) (X : Ctx) (i : Nat) (as : List AV) (h : Heap) (K : AV → Heap → Prop) : Prop :=
  ∀ W φ w vs l c, GlobOK W X.G → HSim W φ (find h) w → RelL W φ (find h) as vs → φ i = some (l, c) →
    ∃ r, w.heap[l]? = some (.loop r) ∧ vs.length = r.params.size ∧ ∀ md : Md,
      RoundIn md.fence 0 P l r.fn ((r.params.zip vs.toArray).foldl (fun tmps (t, a) => tmps.setIfInBounds t a) r.tmps) r.assign r.body w fun e w' =>
        ∃ v φ' h' x, e = .returned v ∧ HSim W φ' (find h') w' ∧ HExt φ (find h) φ' (find h') ∧ Rel W φ' (find h') x v ∧ K x h'

theorem yielder_ok (hG : GlobOK W X.G) (he : EnvOK W φ H ρ a) {o : Oper} {i : Nat} {as : List AV} (h : yielder X ρ o = some (i, as)) :
    ∃ vs l c, RelL W φ H as vs ∧ φ i = some (l, c) ∧ ∀ w r, w.heap[l]? = some (.loop r) → vs.length = r.params.size →
      (execOp a.eval o).run P w = .ok (.round l r.fn ((r.params.zip vs.toArray).foldl (fun tmps (t, a) => tmps.setIfInBounds t a) r.tmps) r.assign r.body) w := by
  unfold yielder at h
  split at h
  · rename_i f0 args ts hop
    split at h
    · rename_i id hev
      cases h
      have hfv := ev_ok hG he f0
      rw [hev] at hfv
      simp only [Rel] at hfv
      split at hfv
      · obtain ⟨b, c, hφ, hfv⟩ := hfv
        refine ⟨args.toList.map a.eval, b, c, mapOp_ok hG he _, hφ, fun w r hr hs => ?_⟩
        have hy := run_yield (P := P) (args := (args.toList.map a.eval).toArray) hr (by simpa using hs)
        unfold execOp
        rw [hop]
        have harr : (args.toList.map a.eval).toArray = args.map a.eval := by rw [← Array.toList_map, Array.toArray_toList]
        rw [harr] at hy ⊢
        simp only [resolve, hfv, Deferred.ofValue, Sem.run_bind, Sem.run_pure, Result.andThen_ok, invoke, Array.empty_append]
        exact hy
      · exact hfv.elim
    · cases h
  · cases h

def updE (d : Option Tmp) (v : AV) (ρ : Nat → AV) : Nat → AV :=
  match d with
  | some t => upd ρ t v
  | none => ρ

def dstOK (n : Nat) (o : Oper) : Bool :=
  match o.dst with
  | some t => Nat.blt t n
  | none => true

theorem get_cons (t : Nat) (v : AV) (e : Env) : get ((t, v) :: e) = upd (get e) t v := by
  funext i
  simp only [get, upd]
  cases hb : Nat.beq t i with
  | true => rw [if_pos (Nat.eq_of_beq_eq_true hb).symm]
  | false =>
    have : i ≠ t := fun e => by rw [e, Nat.beq_refl] at hb; cases hb
    rw [if_neg this]

theorem find_cons (t : Nat) (v : Blk) (h : Heap) : find ((t, v) :: h) = upd (find h) t (some v) := by
  funext i
  simp only [find, upd]
  cases hb : Nat.beq t i with
  | true => rw [if_pos (Nat.eq_of_beq_eq_true hb).symm]
  | false =>
    have : i ≠ t := fun e => by rw [e, Nat.beq_refl] at hb; cases hb
    rw [if_neg this]

theorem addK_find (d : Delta) (h : Heap) (k : Heap → Prop) (hk : addK d h k) : ∃ h', find h' = addF d (find h) ∧ k h' := by
  induction d generalizing h with
  | nil => exact ⟨h, rfl, hk⟩
  | cons e d ih =>
    obtain ⟨i, b⟩ := e
    simp only [addK, forceN_eq, forceK_eq] at hk
    obtain ⟨h', h1, h2⟩ := ih _ hk
    exact ⟨h', by rw [h1, find_cons]; rfl, h2⟩

theorem EnvOK.put {n : Nat} (he : EnvOK W φ H ρ a) (hn : a.tmps.size = n) {d : Option Tmp} (hd : ∀ t, d = some t → t < n) {v : AV} {v' : Value} (hv : Rel W φ H v v') : EnvOK W φ H (updE d v ρ) (a.put d v') := by
  cases d with
  | none => exact he
  | some t =>
    have ht := hd t rfl
    intro i
    simp only [updE, upd, Act.put]
    by_cases hi : i = t
    · subst hi
      rw [if_pos rfl]
      have : (a.tmps.setIfInBounds i v').getD i undef = v' := by
        simp [Array.getD, hn, ht]
      rw [this]
      exact hv
    · rw [if_neg hi]
      have : (a.tmps.setIfInBounds t v').getD i undef = a.tmps.getD i undef := by
        simp [Array.getElem?_setIfInBounds_ne (Ne.symm hi)]
      rw [this]
      exact he i

theorem size_put (d : Option Tmp) (v : Value) : (a.put d v).tmps.size = a.tmps.size := by cases d <;> simp [Act.put]
theorem defers_put (d : Option Tmp) (v : Value) : (a.put d v).defers = a.defers := by cases d <;> simp [Act.put]

theorem dstOK_lt {n : Nat} {o : Oper} (h : dstOK n o = true) : ∀ t, o.dst = some t → t < n := fun t ht => by
  unfold dstOK at h
  rw [ht] at h
  have h : Nat.ble (t + 1) n = true := h
  exact Nat.le_of_ble_eq_true h

theorem Sim.put {md : Md} {n : Nat} (h : Sim W φ H ρ md n a w) {o : Oper} (hd : dstOK n o = true) {v : AV} {v' : Value} (hv : Rel W φ H v v') : Sim W φ H (updE o.dst v ρ) md n (a.put o.dst v') w :=
  ⟨h.heap, h.env.put h.size (dstOK_lt hd) hv, (size_put _ _).trans h.size, by rw [defers_put]; exact h.defers⟩

theorem rel_skip {v : Value} (h : Rel W φ H (.tup []) v) : v = undef := by
  simp only [Rel] at h
  obtain ⟨vs, h1, rfl⟩ := h
  cases vs with
  | nil => rfl
  | cons x vs => simp [RelL] at h1
theorem skip_rel : Rel W φ H (.tup []) undef := by
  simp only [Rel]
  exact ⟨[], trivial, rfl⟩
theorem guardV_ok {ops : Array Oper} (he : EnvOK W φ H ρ a) {o : Oper} {b : Bool} (h : guardV X.G ops.toList ρ o = some b) : Region.wanted o (yielded ops a.tmps) = b := by
  unfold guardV at h
  unfold Region.wanted
  split at h
  · rename_i hg
    cases h
    rw [hg]
  · rename_i j want hg
    rw [hg]
    simp only
    split at h
    · rename_i g hj
      split at h
      · rename_i t ht
        split at h
        · rename_i y hy
          have hv := he t
          rw [hy] at hv
          simp only [Rel, PV.val] at hv
          obtain ⟨_, hv⟩ := hv
          have hget : a.tmps[t]? = some (.bool y) := by
            rw [Array.getD_eq_getD_getElem?] at hv
            cases hq : a.tmps[t]? with
            | none => rw [hq] at hv; cases hv
            | some z => rw [hq] at hv; simpa using hv
          have hyield : yielded ops a.tmps j = some y := by
            unfold yielded
            have hj' : ops[j]? = some g := by simpa using hj
            simp [hj', ht, hget]
          rw [hyield]
          cases want <;> cases y <;> simp at h ⊢ <;> simp_all
        · rename_i hy
          cases h
          have hv := he t
          rw [hy] at hv
          obtain rfl_ := rel_skip hv
          have hyield : yielded ops a.tmps j = none := by
            unfold yielded
            have hj' : ops[j]? = some g := by simpa using hj
            cases hq : a.tmps[t]? with
            | none => simp [hj', ht, hq]
            | some z =>
              have : z = undef := by
                rw [Array.getD_eq_getD_getElem?, hq] at rfl_
                simpa using rfl_
              subst this
              simp [hj', ht, hq, undef]
          rw [hyield]
          cases want <;> rfl
        · cases h
      · cases h
    · cases h

/-- The call of a named Go function, as the model makes it. -/
theorem callee_ok (hG : GlobOK W X.G) (he : EnvOK W φ H ρ a) {o : Oper} {f : Nat} {as : List AV} (h : callee X ρ o = some (f, as)) (hf : FnOK P f) :
    ∃ vs, RelL W φ H as vs ∧ (execOp a.eval o).run P w = .ok (.enter f vs.toArray) w := by
  unfold callee at h
  split at h
  · rename_i f0 args ts hop
    split at h
    · rename_i g caps hev
      cases h
      have hfv := ev_ok hG he f0
      rw [hev] at hfv
      simp only [Rel] at hfv
      obtain ⟨cs, hfv, hcs⟩ := hfv
      refine ⟨args.toList.map a.eval ++ cs, (mapOp_ok hG he _).append hcs, ?_⟩
      obtain ⟨fn, c, h1, h2, h3⟩ := hf
      unfold execOp
      rw [hop]
      simp only [resolve, hfv, Deferred.ofValue, Sem.run_bind, Sem.run_pure, Result.andThen_ok, invoke, callFunc, run_program, h1, h3, h2, Option.isNone_some, Bool.false_eq_true, if_false]
      simp
    · cases h
  · cases h

theorem eval_const (v : Value) : a.eval (.const v) = v := rfl

theorem run_equal_slice_nil' (t e : TypeId) (ao : Option Addr) (l c : Nat) (h : P.underlying t = some (.slice e)) : (Op.equal t (.slice ao l c) (.slice none 0 0)).run P w = .ok ao.isNone w := by
  have key : ∀ d, (Op.equalIn (d + 1) t (.slice ao l c) (.slice none 0 0)).run P w = .ok ao.isNone w := fun d => by cases ao <;> simp [Op.equalIn, run_underlying h]
  exact key 9999

theorem nilCmp_ok (hX : X.ok P) (hG : GlobOK W X.G) (he : EnvOK W φ H ρ a) {o : Oper} {l : List PV} {b : Bool} (h : nilCmp X ρ o = some (l, b)) :
    ∃ y : Bool, (y = true → l = []) ∧ (execOp a.eval o).run P w = .ok (.value (.bool (y == b))) w := by
  unfold nilCmp at h
  split at h
  · rename_i op t x yt hop
    split at h
    · rename_i hsl
      obtain ⟨e, hte, _⟩ := isSlice_ok hX hsl
      split at h
      · rename_i s l' hev
        split at h
        · rename_i b' hb
          cases h
          have hxv := ev_ok hG he x
          rw [hev] at hxv
          simp only [Rel] at hxv
          obtain ⟨ao, c, hxv, _, _, _, h3⟩ := hxv
          refine ⟨ao.isNone, fun hn => ?_, ?_⟩
          · rcases h3 with h3 | ⟨ad, h3, _⟩
            · exact h3
            · rw [h3] at hn; cases hn
          · have hguard : ∀ ox oy m, (eqGuard op t ox oy (.slice ao m c) (.slice none 0 0)).run P w = .ok () w := fun ox oy m => run_eqGuard_plain rfl (by simp)
            unfold execOp
            rw [hop]
            simp only [eval_const, hxv, Sem.run_bind, hguard, Result.andThen_ok]
            unfold isEq at hb
            split at hb
            · cases hb
              simp [binOp, run_equal_slice_nil' t e ao _ c hte]
            · cases hb
              simp [binOp, run_equal_slice_nil' t e ao _ c hte]
            · cases hb
        · cases h
      · cases h
    · cases h
  · cases h

theorem updE_put (d : Option Tmp) (v : AV) (e : Env) : (match d with | some t => get ((t, v) :: e) | none => get e) = updE d v (get e) := by
  cases d with
  | none => rfl
  | some t => exact get_cons t v e

theorem opsP_ok (hX : X.ok P) (hG : GlobOK W X.G) {J : Jd} (hfn : ∀ f as r, J.fn f as r → Fn P X.G f as r) (hinl : ∀ f as h K, J.inl f as h K → InlJ P X f as h K) (hyld : ∀ i as h K, J.yld i as h K → YldJ P X i as h K) {md : Md} {I : Inls} {base n : Nat} {ops : Array Oper}
    {K : Env → Heap → Prop} {Q : Exit → Act → World → Prop} : ∀ (l : List Oper) (e : Env) (h : Heap) (φ : Phi) (a : Act) (w : World), (∀ o ∈ l, dstOK n o = true) →
      opsP X J I base ops.toList l e h K → Sim W φ (find h) (get e) md n a w →
      (∀ φ' e' h' a' w', Sim W φ' (find h') (get e') md n a' w' → HExt φ (find h) φ' (find h') → K e' h' → Q .normal a' w') → wpListIn md.fence 0 P ops Q l a w
  | [], e, h, φ, a, w, _, hp, hs, hQ => hQ φ e h a w hs (HExt.refl _ _) hp
  | o :: r, e, h, φ, a, w, hd, hp, hs, hQ => by
    have hdo := hd o (by simp)
    have hdr : ∀ o ∈ r, dstOK n o = true := fun o' ho' => hd o' (by simp [ho'])
    -- what goes on behind the operation
    have next : ∀ (v : AV) (v' : Value) (h' : Heap) (φ' : Phi) (w' : World), HSim W φ' (find h') w' → HExt φ (find h) φ' (find h') → Rel W φ' (find h') v v' →
        (forceO o v fun v => match o.dst with
          | some t => opsP X J I base ops.toList r ((t, v) :: e) h' K
          | none => opsP X J I base ops.toList r e h' K) → wpListIn md.fence 0 P ops Q r (a.put o.dst v') w' := by
      intro v v' h' φ' w' h1 h2 h3 h4
      have h4 := forceO_ok h4
      have hsim : Sim W φ' (find h') (updE o.dst v (get e)) md n (a.put o.dst v') w' :=
        Sim.put (o := o) ⟨h1, hs.env.mono h2, hs.size, hs.defers.mono h2⟩ hdo h3
      cases hdst : o.dst with
      | none =>
        rw [hdst] at h4 hsim
        exact opsP_ok hX hG hfn hinl hyld r e h' φ' _ w' hdr h4 hsim (fun φ2 e2 h2' a2 w2 k1 k2 k3 => hQ φ2 e2 h2' a2 w2 k1 (h2.trans k2) k3)
      | some t =>
        rw [hdst] at h4 hsim
        simp only [updE] at hsim
        rw [← get_cons] at hsim
        exact opsP_ok hX hG hfn hinl hyld r ((t, v) :: e) h' φ' _ w' hdr h4 hsim (fun φ2 e2 h2' a2 w2 k1 k2 k3 => hQ φ2 e2 h2' a2 w2 k1 (h2.trans k2) k3)
    rw [opsP_cons] at hp
    simp only [stepP] at hp
    refine wpListIn_step fun C hC => ?_
    cases hg : guardV X.G ops.toList (get e) o with
    | none => rw [hg] at hp; exact hp.elim
    | some g =>
      rw [hg] at hp
      rw [guardV_ok hs.env hg]
      cases g with
      | false =>
        simp only [Bool.false_eq_true, if_false]
        refine ⟨fun f _ => md.fn f, ?_⟩
        exact hC _ _ (next (.tup []) undef h φ w hs.heap (HExt.refl _ _) skip_rel (by unfold forceO; split <;> exact hp))
      | true =>
        simp only [if_true]
        simp only at hp
        cases hcal : callee X (get e) o with
        | some fa =>
          obtain ⟨f, as⟩ := fa
          rw [hcal] at hp
          simp only [callP] at hp
          cases hm : memN f I with
          | true =>
            rw [hm] at hp
            simp only at hp
            obtain ⟨hok, hcall⟩ := hinl _ _ _ _ hp
            obtain ⟨vs, hvs, hrun⟩ := callee_ok (w := w) hG hs.env hcal hok
            refine wpIn_of (callee_nd hcal) ?_
            rw [hrun, Oper.uponIn_enter]
            refine ⟨md.deep, (Md.calls (hcall W φ w vs hG hs.heap hvs)).mono ?_⟩
            rintro en w' ⟨v', φ', h', r', rfl, k1, k2, k3, k4⟩
            exact hC _ _ (next r' v' h' φ' w' k1 k2 k3 k4)
          | false =>
            rw [hm] at hp
            simp only at hp
            cases hsh : shutAll (find h) as with
            | none => rw [hsh] at hp; exact hp.elim
            | some bs =>
              rw [hsh] at hp
              simp only at hp
              obtain ⟨rv, hfnr, hp⟩ := hp
              obtain ⟨hok, hcall⟩ := hfn _ _ _ hfnr
              obtain ⟨vs, hvs, hrun⟩ := callee_ok (w := w) hG hs.env hcal hok
              have hshut := shutAll_ok hs.heap (fun _ _ h => h) hvs hsh noPhi noHeap
              have hGw : GlobOK w X.G := fun g x hgx => ⟨(hG g x hgx).1, (hG g x hgx).2.later hs.heap.below⟩
              refine wpIn_of (callee_nd hcal) ?_
              rw [hrun, Oper.uponIn_enter]
              refine ⟨md.deep, (Md.calls (hcall w vs hGw hshut)).mono ?_⟩
              rintro en w' ⟨v', φ1, H1, x, rfl, k1, k2, k3⟩
              cases had : adopt (find h) (freshId base h) ((o.dst.getD 0) * 8) rv with
              | none => rw [had] at hp; exact hp.elim
              | some vd =>
                obtain ⟨v, d⟩ := vd
                rw [had] at hp
                simp only at hp
                obtain ⟨h', hh', hp⟩ := addK_find _ _ _ hp
                obtain ⟨φ2, q1, q2, q3⟩ := adopt_ok hs.heap k1 (fun _ h => h) k2 k3 had
                rw [← hh'] at q1 q2 q3
                exact hC _ _ (next v v' h' φ2 w' q1 q2 q3 hp)
        | none =>
          rw [hcal] at hp
          simp only at hp
          cases hyl : yielder X (get e) o with
          | some ia =>
            obtain ⟨i, as⟩ := ia
            rw [hyl] at hp
            simp only at hp
            obtain ⟨vs, l, c, hvs, hφ, hrun⟩ := yielder_ok (P := P) hG hs.env hyl
            obtain ⟨r', hr1, hr2, hr3⟩ := hyld _ _ _ _ hp W φ w vs l c hG hs.heap hvs hφ
            refine wpIn_of (yielder_nd hyl) ?_
            rw [hrun w r' hr1 hr2, Oper.uponIn_round]
            refine ⟨md.deep, (hr3 md).mono ?_⟩
            rintro en w' ⟨v', φ', h', x, rfl, k1, k2, k3, k4⟩
            exact hC _ _ (next x v' h' φ' w' k1 k2 k3 k4)
          | none =>
          rw [hyl] at hp
          simp only at hp
          cases hnil : nilCmp X (get e) o with
          | some lb =>
            obtain ⟨l, b⟩ := lb
            rw [hnil] at hp
            simp only at hp
            obtain ⟨y, hy, hrun⟩ := nilCmp_ok (P := P) (w := w) hX hG hs.env hnil
            refine wpIn_of (nilCmp_nd hnil) ?_
            rw [hrun, Oper.uponIn_value]
            exact hC _ _ (next (.p (.b (y == b))) (.bool (y == b)) h φ w hs.heap (HExt.refl _ _) (Rel.plain (x := .b (y == b)) trivial) (hp y hy))
          | none =>
            rw [hnil] at hp
            simp only at hp
            cases hop : opV X (get e) (find h) (freshId base h) o with
            | none => rw [hop] at hp; exact hp.elim
            | some vd =>
              obtain ⟨v, d⟩ := vd
              rw [hop] at hp
              simp only at hp
              obtain ⟨h', hh', hp⟩ := addK_find _ _ _ hp
              obtain ⟨w', φ', v', hrun, q1, q2, q3⟩ := opV_ok (P := P) (w := w) hX hG hs.heap (fun _ _ h => h) hs.env (fun h => h) hop
              rw [← hh'] at q1 q2 q3
              refine wpIn_of (opV_nd hop) ?_
              rcases hrun with hrun | ⟨hrun, rfl⟩
              · rw [hrun, Oper.uponIn_value]
                exact hC _ _ (next v v' h' φ' w' q1 q2 q3 hp)
              · rw [hrun, Oper.uponIn_skip]
                exact hC _ _ (next v undef h' φ' w' q1 q2 q3 hp)

end Go.Proofs.YtipmkjfbdflneaaDoor.AM

namespace Go.Proofs.YtipmkjfbdflneaaDoor.AM
open Go Go.RowKit

variable {P : Program} {X : Ctx} {W : World} {φ : Phi} {H L : HeapF} {w : World} {ρ : Nat → AV} {a : Act}

theorem mapOp_congr {G : Globs} {ρ ρ' : Nat → AV} {l : List Operand} (h : ∀ x ∈ l, ev G ρ x = ev G ρ' x) : mapOp (ev G ρ) l = mapOp (ev G ρ') l := by
  induction l with
  | nil => rfl
  | cons x l ih => simp only [mapOp]; rw [h x (by simp), ih fun y hy => h y (by simp [hy])]

theorem mapPair_congr {G : Globs} {ρ ρ' : Nat → AV} {l : List (Nat × Operand)} (h : ∀ x ∈ l.map (·.2), ev G ρ x = ev G ρ' x) : mapPair (ev G ρ) l = mapPair (ev G ρ') l := by
  induction l with
  | nil => rfl
  | cons x l ih =>
    obtain ⟨i, x⟩ := x
    simp only [mapPair]
    rw [h x (by simp), ih fun y hy => h y (by simp only [List.map_cons, List.mem_cons]; exact .inr hy)]

theorem opV_congr {ρ ρ' : Nat → AV} {fid : Nat → Nat} {o : Oper} (h : ∀ x ∈ o.op.operands.toList, ev X.G ρ x = ev X.G ρ' x) : opV X ρ L fid o = opV X ρ' L fid o := by
  obtain ⟨dst, op, ty, pos, after, guard⟩ := o
  cases op <;> simp only [Op.operands] at h <;> simp only [opV]
  case build t ps => rw [mapPair_congr fun x hx => h x (by simpa using hx)]
  case buildSlice t n ps => rw [mapPair_congr fun x hx => h x (by simpa using hx)]
  case makeFunc fn first caps =>
    cases fn <;> try rfl
    cases hf : first.toList with
    | nil => simp only; rw [mapOp_congr fun x hx => h x (by simp; exact .inr (by simpa using hx))]
    | cons => rfl
  case makeMap t r => cases r <;> rfl
  case lookup t x y c => rw [h x (by simp), h y (by simp)]
  case mapUpdate t x y z => rw [h x (by simp), h y (by simp), h z (by simp)]
  case call c =>
    obtain ⟨cal, args, ts⟩ := c
    cases cal <;> simp only
    rw [mapOp_congr fun x hx => h x (by simp [Call.operands]; simpa using hx)]
  case slice t x lo hi mx =>
    have hx := h x (by simp)
    have hlo : optOp (ev X.G ρ) lo = optOp (ev X.G ρ') lo := by cases lo with | none => rfl | some y => simp only [optOp]; rw [h y (by simp)]
    have hhi : optOp (ev X.G ρ) hi = optOp (ev X.G ρ') hi := by cases hi with | none => rfl | some y => simp only [optOp]; rw [h y (by simp)]
    have hmx : optOp (ev X.G ρ) mx = optOp (ev X.G ρ') mx := by cases mx with | none => rfl | some y => simp only [optOp]; rw [h y (by simp)]
    rw [hx, hlo, hhi, hmx]
  all_goals first
    | rfl
    | (rename_i x; rw [h x (by simp)]; done)
    | (rename_i x _; rw [h x (by simp)]; done)
    | (rename_i _ x; rw [h x (by simp)]; done)
    | (rename_i _ x _; rw [h x (by simp)]; done)
    | (rename_i x y; rw [h x (by simp), h y (by simp)]; done)
    | (rename_i x y z; rw [h x (by simp), h y (by simp), h z (by simp)]; done)
    | (rename_i _ x y; rw [h x (by simp), h y (by simp)]; done)
    | (rename_i _ _ x y _; rw [h x (by simp), h y (by simp)]; done)
    | (rename_i _ _ x; rw [h x (by simp)]; done)

theorem callee_congr {ρ ρ' : Nat → AV} {o : Oper} (h : ∀ x ∈ o.op.operands.toList, ev X.G ρ x = ev X.G ρ' x) : callee X ρ o = callee X ρ' o := by
  unfold callee
  split
  · rename_i f args ts hop
    rw [hop] at h
    simp only [Op.operands, Call.operands] at h
    rw [h f (by simp), mapOp_congr (l := args.toList) fun x hx => h x (by simp; exact .inr (by simpa using hx))]
  · rfl

theorem opndRefs_congr {G : Globs} {ρ ρ' : Nat → AV} {l : List Operand} (h : ∀ x ∈ l, ev G ρ x = ev G ρ' x) : opndRefs G ρ l = opndRefs G ρ' l := by
  induction l with
  | nil => rfl
  | cons x l ih => simp only [opndRefs]; rw [h x (by simp), ih fun y hy => h y (by simp [hy])]

theorem looks_congr {ρ ρ' : Nat → AV} {fid : Nat → Nat} {o : Oper} (h : ∀ x ∈ o.op.operands.toList, ev X.G ρ x = ev X.G ρ' x) : looks X ρ fid o = looks X ρ' fid o := by
  unfold looks
  rw [opndRefs_congr h]

theorem ev_updE {G : Globs} {dst : Option Tmp} {v : AV} {x : Operand} (h : ∀ d, dst = some d → x ≠ .tmp d) : ev G (updE dst v ρ) x = ev G ρ x := by
  cases dst with
  | none => rfl
  | some d =>
    cases x with
    | tmp t =>
      have : t ≠ d := fun e => h d rfl (e ▸ rfl)
      simp [ev, updE, upd, this]
    | _ => rfl

theorem ev_apart {G : Globs} {ops : Array Oper} {dst : Option Tmp} {v : AV} {o : Oper} (h : ∀ d, dst = some d → d ∉ o.looksAt ops) : ∀ x ∈ o.op.operands.toList, ev G (updE dst v ρ) x = ev G ρ x := fun x hx =>
  ev_updE fun d hd hxd => h d hd (by
    subst hxd
    exact List.mem_append_left _ (List.mem_filterMap.2 ⟨.tmp d, hx, rfl⟩))

theorem guard_apart {G : Globs} {ops : Array Oper} {dst : Option Tmp} {v : AV} {o : Oper} (h : ∀ d, dst = some d → d ∉ o.looksAt ops) : guardV G ops.toList (updE dst v ρ) o = guardV G ops.toList ρ o := by
  unfold guardV
  cases hg : o.guard with
  | none => rfl
  | some jw =>
    obtain ⟨j, want⟩ := jw
    simp only
    cases hj : ops.toList[j]? with
    | none => rfl
    | some g =>
      simp only
      cases ht : g.dst with
      | none => rfl
      | some t =>
        simp only
        have : updE dst v ρ t = ρ t := by
          cases dst with
          | none => rfl
          | some d =>
            have hne : t ≠ d := fun e => h d rfl (by
              subst e
              have hj' : ops[j]? = some g := by simpa using hj
              simp [Oper.looksAt, hg, hj', ht])
            simp [updE, upd, hne]
        rw [this]

/-- What an operation leaves: the value, and the blocks that it has made or turned; it looks at no block but lk, and touches none but wr. -/
def YA (X : Ctx) (J : Jd) (base : Nat) (ops : Array Oper) (o : Oper) (ρ : Nat → AV) (H : HeapF) (v : AV) (d : Delta) (lk wr : List Nat) : Prop :=
  (guardV X.G ops.toList ρ o = some false ∧ v = .tup [] ∧ d = []) ∨
  (guardV X.G ops.toList ρ o = some true ∧ (∀ i ∈ looks X ρ (fun s => base + s) o, i ∈ lk) ∧ (∀ i ∈ dIds d, i ∈ wr) ∧
    ((callee X ρ o = none ∧ opV X ρ (restrict H (looks X ρ (fun s => base + s) o)) (fun s => base + s) o = some (v, d)) ∨
     ∃ f as bs rv, callee X ρ o = some (f, as) ∧ shutAll (restrict H (looks X ρ (fun s => base + s) o)) as = some bs ∧ J.fn f bs rv ∧ adopt H (fun s => base + s) ((o.dst.getD 0) * 8) rv = some (v, d)))

theorem restrict_congr {H' : HeapF} {l : List Nat} (h : ∀ i ∈ l, H i = H' i) : restrict H l = restrict H' l := by
  funext i
  unfold restrict
  cases hb : memN i l with
  | true => exact h i (memN_iff.1 hb)
  | false => rfl

theorem dIds_appD (d e : Delta) : dIds (appD d e) = dIds d ++ dIds e := by
  induction d with
  | nil => rfl
  | cons x d ih => obtain ⟨i, b⟩ := x; simp [appD, dIds, ih]

theorem addF_ne {d : Delta} {i : Nat} (h : i ∉ dIds d) : addF d H i = H i := by
  induction d generalizing H with
  | nil => rfl
  | cons x d ih =>
    obtain ⟨j, b⟩ := x
    simp only [dIds, List.mem_cons, not_or] at h
    simp only [addF]
    rw [ih h.2, upd_ne _ _ h.1]

theorem addF_congr {d : Delta} {H' : HeapF} {i : Nat} (h : H i = H' i) : addF d H i = addF d H' i := by
  induction d generalizing H H' with
  | nil => exact h
  | cons x d ih =>
    obtain ⟨j, b⟩ := x
    simp only [addF]
    refine ih ?_
    unfold upd
    split
    · rfl
    · exact h

theorem adopt1_congr {L' : HeapF} {site : Nat} {x y : AV} {d : Delta} (h : ∀ i ∈ dIds d, L i = L' i) (ha : adopt1 L site x = some (y, d)) : adopt1 L' site x = some (y, d) := by
  cases x <;> simp only [adopt1] at ha ⊢ <;> try (cases ha; done)
  · exact ha
  · split at ha
    · rename_i hl
      cases ha
      rw [← h site (by simp [dIds]), hl]
    · cases ha

theorem adoptL_congr {fid : Nat → Nat} : ∀ {xs ys : List AV} {L L' : HeapF} {site : Nat} {d : Delta}, (∀ i ∈ dIds d, L i = L' i) → adoptL fid L site xs = some (ys, d) → adoptL fid L' site xs = some (ys, d)
  | [], ys, L, L', site, d, h, ha => by simpa [adoptL] using ha
  | x :: xs, ys, L, L', site, d, h, ha => by
    simp only [adoptL] at ha ⊢
    split at ha
    · rename_i y d1 hy
      split at ha
      · rename_i ys' d2 hys
        cases ha
        rw [dIds_appD] at h
        rw [adopt1_congr (fun i hi => h i (by simp [hi])) hy]
        simp only
        rw [adoptL_congr (fun i hi => addF_congr (h i (by simp [hi]))) hys]
      · cases ha
    · cases ha

theorem adoptT_congr {fid : Nat → Nat} : ∀ {xs ys : List AV} {L L' : HeapF} {site : Nat} {d : Delta}, (∀ i ∈ dIds d, L i = L' i) → adoptT fid L site xs = some (ys, d) → adoptT fid L' site xs = some (ys, d)
  | [], ys, L, L', site, d, h, ha => by simpa [adoptT] using ha
  | x :: xs, ys, L, L', site, d, h, ha => by
    by_cases hst : ∃ l, x = .st l
    · obtain ⟨l, rfl⟩ := hst
      simp only [adoptT] at ha ⊢
      split at ha
      · rename_i y d1 hy
        split at ha
        · rename_i ys' d2 hys
          cases ha
          rw [dIds_appD] at h
          rw [adoptL_congr (fun i hi => h i (by simp [hi])) hy]
          simp only
          rw [adoptT_congr (fun i hi => addF_congr (h i (by simp [hi]))) hys]
        · cases ha
      · cases ha
    · obtain ⟨y, ys', d1, d2, hy, hys, rfl, rfl⟩ := adoptT_cons (fun l e => hst ⟨l, e⟩) ha
      rw [dIds_appD] at h
      have h1 := adopt1_congr (L' := L') (fun i hi => h i (by simp [hi])) hy
      have h2 := adoptT_congr (L' := addF d1 L') (fun i hi => addF_congr (h i (by simp [hi]))) hys
      cases x <;> first
        | exact absurd ⟨_, rfl⟩ hst
        | (simp only [adoptT, h1, h2])

theorem adopt_congr {fid : Nat → Nat} {L' : HeapF} {site : Nat} {x y : AV} {d : Delta} (h : ∀ i ∈ dIds d, L i = L' i) (ha : adopt L fid site x = some (y, d)) : adopt L' fid site x = some (y, d) := by
  cases x with
  | tup l =>
    simp only [adopt] at ha ⊢
    split at ha
    · rename_i m d' hm
      cases ha
      rw [adoptT_congr h hm]
    · cases ha
  | st l =>
    simp only [adopt] at ha ⊢
    split at ha
    · rename_i m d' hm
      cases ha
      rw [adoptL_congr h hm]
    · cases ha
  | _ => simp only [adopt] at ha ⊢; exact adopt1_congr h ha

theorem YA.congr {J : Jd} {base : Nat} {ops : Array Oper} {o : Oper} {ρ' : Nat → AV} {H' : HeapF} {v : AV} {d : Delta} {lk wr : List Nat} (h : YA X J base ops o ρ H v d lk wr)
    (h1 : ∀ x ∈ o.op.operands.toList, ev X.G ρ x = ev X.G ρ' x) (h2 : guardV X.G ops.toList ρ' o = guardV X.G ops.toList ρ o) (h3 : ∀ i ∈ lk, H i = H' i) (h4 : ∀ i ∈ wr, H i = H' i) :
    YA X J base ops o ρ' H' v d lk wr := by
  rcases h with ⟨g1, g2⟩ | ⟨g1, g2, g3, g4⟩
  · exact .inl ⟨h2.trans g1, g2⟩
  · have hl : looks X ρ' (fun s => base + s) o = looks X ρ (fun s => base + s) o := (looks_congr h1).symm
    have hr : restrict H' (looks X ρ (fun s => base + s) o) = restrict H (looks X ρ (fun s => base + s) o) := (restrict_congr fun i hi => h3 i (g2 i hi)).symm
    refine .inr ⟨h2.trans g1, by rw [hl]; exact g2, g3, ?_⟩
    rw [hl, hr, ← callee_congr h1]
    rcases g4 with ⟨k1, k2⟩ | ⟨f, as, bs, rv, k1, k2, k3, k4⟩
    · exact .inl ⟨k1, by rw [← opV_congr h1]; exact k2⟩
    · exact .inr ⟨f, as, bs, rv, k1, k2, k3, adopt_congr (fun i hi => h4 i (g3 i hi)) k4⟩

/-- In the model the operation does just that. -/
theorem YA.wp (hX : X.ok P) (hG : GlobOK W X.G) {J : Jd} (hfn : ∀ f as r, J.fn f as r → Fn P X.G f as r) {md : Md} {base n : Nat} {ops : Array Oper} {o : Oper} {v : AV} {d : Delta} {lk wr : List Nat}
    (h : YA X J base ops o ρ H v d lk wr) (hs : Sim W φ H ρ md n a w) (hd : dstOK n o = true) {C : Act → World → Prop} {Q : Exit → Act → World → Prop}
    (hC : ∀ φ' a' w', Sim W φ' (addF d H) (updE o.dst v ρ) md n a' w' → HExt φ H φ' (addF d H) → C a' w') :
    if Region.wanted o (yielded ops a.tmps) then o.wpIn md.fence 0 P a w C Q else C (a.put o.dst undef) w := by
  have next : ∀ (v' : Value) (φ' : Phi) (w' : World), HSim W φ' (addF d H) w' → HExt φ H φ' (addF d H) → Rel W φ' (addF d H) v v' → C (a.put o.dst v') w' := by
    intro v' φ' w' h1 h2 h3
    exact hC φ' _ w' (Sim.put (o := o) ⟨h1, hs.env.mono h2, hs.size, hs.defers.mono h2⟩ hd h3) h2
  rcases h with ⟨g1, rfl, rfl⟩ | ⟨g1, g2, g3, g4⟩
  · rw [guardV_ok hs.env g1]
    simp only [Bool.false_eq_true, if_false]
    exact next undef φ w hs.heap (HExt.refl _ _) skip_rel
  · rw [guardV_ok hs.env g1]
    simp only [if_true]
    have hsub : SubH (restrict H (looks X ρ (fun s => base + s) o)) H := fun i b hb => by
      unfold restrict at hb
      split at hb
      · exact hb
      · cases hb
    rcases g4 with ⟨k1, k2⟩ | ⟨f, as, bs, rv, k1, k2, k3, k4⟩
    · obtain ⟨w', φ', v', hrun, q1, q2, q3⟩ := opV_ok (P := P) (w := w) hX hG hs.heap hsub hs.env (fun hn => by
        unfold restrict at hn
        have : memN (base + (o.dst.getD 0) * 8) (looks X ρ (fun s => base + s) o) = true := memN_iff.2 (by simp [looks, sites])
        rw [this] at hn
        exact hn) k2
      refine wpIn_of (opV_nd k2) ?_
      rcases hrun with hrun | ⟨hrun, rfl⟩
      · rw [hrun, Oper.uponIn_value]
        exact next v' φ' w' q1 q2 q3
      · rw [hrun, Oper.uponIn_skip]
        exact next undef φ' w' q1 q2 q3
    · obtain ⟨hok, hcall⟩ := hfn _ _ _ k3
      obtain ⟨vs, hvs, hrun⟩ := callee_ok (w := w) hG hs.env k1 hok
      have hshut := shutAll_ok hs.heap hsub hvs k2 noPhi noHeap
      have hGw : GlobOK w X.G := fun g x hgx => ⟨(hG g x hgx).1, (hG g x hgx).2.later hs.heap.below⟩
      refine wpIn_of (callee_nd k1) ?_
      rw [hrun, Oper.uponIn_enter]
      refine ⟨md.deep, (Md.calls (hcall w vs hGw hshut)).mono ?_⟩
      rintro en w' ⟨v', φ1, H1, x, rfl, q1, q2, q3⟩
      obtain ⟨φ2, r1, r2, r3⟩ := adopt_ok hs.heap q1 (fun _ h => h) q2 q3 k4
      exact next v' φ2 w' r1 r2 r3

end Go.Proofs.YtipmkjfbdflneaaDoor.AM

namespace Go.Proofs.YtipmkjfbdflneaaDoor.AM
open Go Go.RowKit

variable {P : Program} {X : Ctx} {W : World} {φ : Phi} {H L : HeapF} {w : World} {ρ : Nat → AV} {a : Act}

abbrev Ft := List Nat × List Nat

/-- Two operations' footprints lie apart. -/
def Apart (f g : Ft) : Prop := (∀ i ∈ f.2, i ∉ g.1) ∧ (∀ i ∈ f.2, i ∉ g.2) ∧ (∀ i ∈ g.2, i ∉ f.1)

theorem disjN_spec {l m : List Nat} (h : disjN l m = true) : ∀ i ∈ l, i ∉ m := by
  induction l with
  | nil => simp
  | cons n l ih =>
    simp only [disjN] at h
    split at h
    · cases h
    · rename_i hn
      intro i hi
      rcases List.mem_cons.1 hi with rfl | hi
      · intro hm
        rw [memN_iff.2 hm] at hn
        cases hn
      · exact ih h i hi

theorem waitsL_false {k : Nat} {l : List Edge} : waitsL k l = false ↔ ∀ e ∈ l, Region.binds .any e = true → e.on ≠ k := by
  induction l with
  | nil => simp [waitsL]
  | cons e l ih =>
    simp only [waitsL, List.mem_cons, forall_eq_or_imp]
    cases hb : Region.binds .any e with
    | false => simp only [ih]; simp
    | true =>
      simp only
      cases hk : Nat.beq e.on k with
      | true =>
        have := Nat.eq_of_beq_eq_true hk
        simp [this]
      | false =>
        have : e.on ≠ k := fun h => by rw [h, Nat.beq_refl] at hk; cases hk
        simp only [ih]
        simp [this]

theorem reachB_waits {all : List Oper} {k n : Nat} {o : Oper} (h : waitsL k o.after.toList = true) : reachB all k n o = true := by
  cases n with
  | zero => exact h
  | succ n => unfold reachB; rw [h]

def FO (all : List Oper) (o : Oper) (f : Ft) (done : List Foot) : Prop := ∀ k lk wr, (k, lk, wr) ∈ done → reachB all k 12 o = false → Apart (lk, wr) f

theorem footOK_spec {all : List Oper} {o : Oper} {lk wr : List Nat} {done : List Foot} (h : footOK all o lk wr done = true) : FO all o (lk, wr) done := by
  induction done with
  | nil => intro k l m hm; cases hm
  | cons e done ih =>
    obtain ⟨k, lk', wr'⟩ := e
    simp only [footOK] at h
    intro k1 l1 w1 hm hw
    split at h
    · rename_i hk
      rcases List.mem_cons.1 hm with he | hm
      · cases he; rw [reachB_waits hk] at hw; cases hw
      · exact ih h k1 l1 w1 hm hw
    · split at h
      · rename_i hd
        rcases List.mem_cons.1 hm with he | hm
        · cases he
          simp only [Bool.and_eq_true] at hd
          exact ⟨disjN_spec hd.1.1, disjN_spec hd.1.2, disjN_spec hd.2⟩
        · exact ih h k1 l1 w1 hm hw
      · split at h
        · rename_i hd
          rcases List.mem_cons.1 hm with he | hm
          · cases he; rw [hd] at hw; cases hw
          · exact ih h k1 l1 w1 hm hw
        · cases h

def Good (all : List Oper) : Nat → List Foot → List Oper → List Ft → Prop
  | _, _, [], [] => True
  | k, done, o :: r, f :: fs => FO all o f done ∧ Good all (k + 1) ((k, f.1, f.2) :: done) r fs
  | _, _, _, _ => False

theorem Good.late {all : List Oper} : ∀ {l : List Oper} {fs : List Ft} {k : Nat} {done : List Foot}, Good all k done l fs → ∀ (k1 : Nat) (lk wr : List Nat), (k1, lk, wr) ∈ done → ∀ (q : Nat) (o : Oper) (f : Ft), l[q]? = some o → fs[q]? = some f →
    reachB all k1 12 o = false → Apart (lk, wr) f
  | [], _, _, _, _, _, _, _, _, q, o, f, ho, _, _ => by simp at ho
  | o :: r, [], k, done, h, _, _, _, _, _, _, _, _, _, _ => by simp [Good] at h
  | o :: r, g :: fs, k, done, h, k1, lk, wr, hm, q, o', f, ho, hf, hw => by
    simp only [Good] at h
    cases q with
    | zero =>
      simp only [List.getElem?_cons_zero, Option.some.injEq] at ho hf
      subst ho; subst hf
      exact h.1 k1 lk wr hm hw
    | succ q => exact Good.late h.2 k1 lk wr (by simp [hm]) q o' f (by simpa using ho) (by simpa using hf) hw

theorem Good.pair {all : List Oper} : ∀ {l : List Oper} {fs : List Ft} {k : Nat} {done : List Foot}, Good all k done l fs → ∀ (p q : Nat) (o : Oper) (f g : Ft), p < q → l[q]? = some o → fs[p]? = some f → fs[q]? = some g →
    reachB all (k + p) 12 o = false → Apart f g
  | [], _, _, _, _, _, _, _, _, _, _, ho, _, _, _ => by simp at ho
  | o :: r, [], k, done, h, _, _, _, _, _, _, _, _, _, _ => by simp [Good] at h
  | o :: r, g0 :: fs, k, done, h, p, q, o', f, g, hpq, ho, hf, hg, hw => by
    simp only [Good] at h
    cases q with
    | zero => omega
    | succ q =>
      simp only [List.getElem?_cons_succ] at ho hg
      cases p with
      | zero =>
        simp only [List.getElem?_cons_zero, Option.some.injEq] at hf
        subst hf
        exact Good.late h.2 k g0.1 g0.2 (by simp) q o' g ho hg hw
      | succ p =>
        simp only [List.getElem?_cons_succ] at hf
        exact Good.pair h.2 p q o' f g (by omega) ho hf hg (by rw [show k + 1 + p = k + (p + 1) by omega]; exact hw)

section
variable (X : Ctx) (J : Jd) (base : Nat) (ops : Array Oper) (Q : (Nat → AV) → HeapF → Prop)

def lexA : List Oper → List Ft → (Nat → AV) → HeapF → Prop
  | [], [], ρ, H => Q ρ H
  | o :: r, f :: fs, ρ, H => ∃ v d, YA X J base ops o ρ H v d f.1 f.2 ∧ lexA r fs (updE o.dst v ρ) (addF d H)
  | _, _, _, _ => False

def yOp (ft : Nat → Ft) (i : Nat) (K : (Nat → AV) → HeapF → Prop) (ρ : Nat → AV) (H : HeapF) : Prop :=
  match ops[i]? with
  | none => K ρ H
  | some o => ∃ v d, YA X J base ops o ρ H v d (ft i).1 (ft i).2 ∧ K (updE o.dst v ρ) (addF d H)

def anyA (ft : Nat → Ft) : Nat → Array Bool → (Nat → AV) → HeapF → Prop
  | 0, listed, ρ, H => Region.ready .any ops listed = [] ∧ Q ρ H
  | fuel + 1, listed, ρ, H => (Region.ready .any ops listed = [] → Q ρ H) ∧
    ∀ i ∈ Region.ready .any ops listed, yOp X J base ops ft i (anyA ft fuel (listed.setIfInBounds i true)) ρ H
end

theorem yOp_mono {J : Jd} {base : Nat} {ops : Array Oper} {ft : Nat → Ft} {i : Nat} {K K' : (Nat → AV) → HeapF → Prop} (h : ∀ ρ H, K ρ H → K' ρ H) (hh : yOp X J base ops ft i K ρ H) : yOp X J base ops ft i K' ρ H := by
  unfold yOp at *
  split
  · rename_i ho; rw [ho] at hh; exact h _ _ hh
  · rename_i o ho
    rw [ho] at hh
    obtain ⟨v, d, h1, h2⟩ := hh
    exact ⟨v, d, h1, h _ _ h2⟩

theorem YA.ids {J : Jd} {base : Nat} {ops : Array Oper} {o : Oper} {v : AV} {d : Delta} {lk wr : List Nat} (h : YA X J base ops o ρ H v d lk wr) : ∀ i ∈ dIds d, i ∈ wr := by
  rcases h with ⟨_, _, rfl⟩ | ⟨_, _, h, _⟩
  · simp [dIds]
  · exact h

theorem updE_comm {x y : Option Tmp} {v u : AV} (h : ∀ d, x = some d → y ≠ some d) : updE x v (updE y u ρ) = updE y u (updE x v ρ) := by
  cases x with
  | none => rfl
  | some d =>
    cases y with
    | none => rfl
    | some e =>
      have hne : d ≠ e := fun he => h d rfl (he ▸ rfl)
      funext i
      simp only [updE, upd]
      by_cases h1 : i = d
      · by_cases h2 : i = e
        · exact absurd (h1.symm.trans h2) hne
        · simp [h1, hne]
      · by_cases h2 : i = e <;> simp [h1, h2, Ne.symm hne]

theorem addF_comm {d e : Delta} (h : ∀ i ∈ dIds d, i ∉ dIds e) : addF d (addF e H) = addF e (addF d H) := by
  funext i
  by_cases h1 : i ∈ dIds d
  · have h2 := h i h1
    rw [addF_ne (d := e) h2]
    exact addF_congr (addF_ne h2)
  · rw [addF_ne (d := d) h1]
    exact addF_congr (addF_ne h1).symm

theorem yOp_put {J : Jd} {base : Nat} {ops : Array Oper} {ft : Nat → Ft} {i j : Nat} {oi oj : Oper} {v : AV} {d : Delta} (hj : ops[j]? = some oj) (hap : oi.apart ops oj = true) (hft : Apart (ft i) (ft j))
    {K : (Nat → AV) → HeapF → Prop} (hy : YA X J base ops oi ρ H v d (ft i).1 (ft i).2) (h : yOp X J base ops ft j K (updE oi.dst v ρ) (addF d H)) :
    yOp X J base ops ft j (fun ρ' H' => YA X J base ops oi ρ' H' v d (ft i).1 (ft i).2 ∧ K (updE oi.dst v ρ') (addF d H')) ρ H := by
  obtain ⟨h1, h2, h3⟩ := Oper.apart_spec hap
  unfold yOp at *
  rw [hj] at *
  obtain ⟨u, e, hu, hK⟩ := h
  have hd := hy.ids
  have hu' : YA X J base ops oj ρ H u e (ft j).1 (ft j).2 := hu.congr (fun x hx => ev_apart h1 x hx) (guard_apart h1).symm
    (fun k hk => addF_ne fun hm => hft.1 k (hd k hm) hk) (fun k hk => addF_ne fun hm => hft.2.1 k (hd k hm) hk)
  have he := hu.ids
  refine ⟨u, e, hu', hy.congr (fun x hx => (ev_apart h3 x hx).symm) (guard_apart h3) (fun k hk => (addF_ne fun hm => hft.2.2 k (he k hm) hk).symm)
    (fun k hk => (addF_ne fun hm => hft.2.1 k hk (he k hm)).symm), ?_⟩
  rw [updE_comm h2, addF_comm fun k hk hm => hft.2.1 k (hd k hk) (he k hm)]
  exact hK

def Closed (ops : Array Oper) (listed : Array Bool) : Prop :=
  ∀ (j : Nat) (o : Oper), ops[j]? = some o → listed.getD j false = true → ∀ e ∈ o.after, Region.binds .any e = true → listed.getD e.on false = true
theorem reach_listed {ops : Array Oper} {listed : Array Bool} (hc : Closed ops listed) {k : Nat} : ∀ (n : Nat) (o : Oper), (∀ e ∈ o.after, Region.binds .any e = true → listed.getD e.on false = true) →
    reachB ops.toList k n o = true → listed.getD k false = true := by
  have hw : ∀ o : Oper, (∀ e ∈ o.after, Region.binds .any e = true → listed.getD e.on false = true) → waitsL k o.after.toList = true → listed.getD k false = true := by
    intro o ho h
    apply Classical.byContradiction
    intro hn
    have : waitsL k o.after.toList = false := waitsL_false.2 fun e he hb heq => hn (heq ▸ ho e (by simpa using he) hb)
    rw [this] at h
    cases h
  intro n
  induction n with
  | zero => intro o ho h; exact hw o ho h
  | succ n ih =>
    intro o ho h
    unfold reachB at h
    split at h
    · rename_i h1; exact hw o ho h1
    · obtain ⟨e, he, h⟩ := List.any_eq_true.1 h
      split at h
      · rename_i hb
        split at h
        · rename_i o' ho'
          have he' : e ∈ o.after := by simpa using he
          exact ih o' (hc e.on o' (by simpa using ho') (ho e he' hb)) h
        · cases h
      · cases h
theorem getD_rep {n j : Nat} : (Array.replicate n false).getD j false = false := by
  rcases Nat.lt_or_ge j n with h | h
  · simp [h]
  · rw [Array.getD_eq_getD_getElem?, Array.getElem?_eq_none (by simpa using h)]
    rfl
theorem getD_ft {l : Array Bool} {i : Nat} (h : l.getD i true = false) : l.getD i false = false := by
  rcases Nat.lt_or_ge i l.size with h' | h'
  · simpa [h'] using h
  · simp [Array.getElem?_eq_none h']
theorem Closed.put {ops : Array Oper} {listed : Array Bool} (hc : Closed ops listed) {i : Nat} (hi : i ∈ Region.ready .any ops listed) : Closed ops (listed.setIfInBounds i true) := by
  obtain ⟨_, oi, hoi, hall⟩ := mem_ready.1 hi
  have hmono : ∀ k, listed.getD k false = true → (listed.setIfInBounds i true).getD k false = true := by
    intro k hk
    by_cases hik : i = k
    · subst hik
      rcases Nat.lt_or_ge i listed.size with h' | h'
      · simp [h']
      · simp [Array.getElem?_eq_none h'] at hk
    · rw [getD_set_ne false hik]; exact hk
  intro j o ho hj e he hb
  apply hmono
  by_cases hij : i = j
  · subst hij
    rw [hoi] at ho
    cases ho
    exact hall e he hb
  · rw [getD_set_ne false hij] at hj
    exact hc j o ho hj e he hb
theorem anyA_first {J : Jd} {base : Nat} {ops : Array Oper} {ft : Nat → Ft} {Q : (Nat → AV) → HeapF → Prop} {i : Nat} {oi : Oper} {v : AV} {d : Delta} (hi : ops[i]? = some oi) :
    ∀ (fuel : Nat) (listed : Array Bool) (ρ : Nat → AV) (H : HeapF),
      (∀ j oj, ops[j]? = some oj → j ≠ i → listed.getD j true = false → (∀ e ∈ oj.after, Region.binds .any e = true → e.on ≠ i) → oi.apart ops oj = true ∧ (reachB ops.toList i 12 oj = false → Apart (ft i) (ft j))) →
      Closed ops listed → i ∈ Region.ready .any ops listed → YA X J base ops oi ρ H v d (ft i).1 (ft i).2 →
      anyA X J base ops Q ft fuel (listed.setIfInBounds i true) (updE oi.dst v ρ) (addF d H) → anyA X J base ops Q ft (fuel + 1) listed ρ H := by
  have here : ∀ (K : (Nat → AV) → HeapF → Prop) (ρ : Nat → AV) (H : HeapF), YA X J base ops oi ρ H v d (ft i).1 (ft i).2 → K (updE oi.dst v ρ) (addF d H) → yOp X J base ops ft i K ρ H := by
    intro K ρ H hy hK
    unfold yOp
    rw [hi]
    exact ⟨v, d, hy, hK⟩
  intro fuel
  induction fuel with
  | zero =>
    intro listed ρ H _ _ hr hy HH
    refine ⟨fun h => (by rw [h] at hr; cases hr), fun j hj => ?_⟩
    by_cases hji : j = i
    · subst hji; exact here _ _ _ hy HH
    · have := ready_mono hj hji
      rw [HH.1] at this
      cases this
  | succ fuel ih =>
    intro listed ρ H hfree hcl hr hy HH
    refine ⟨fun h => (by rw [h] at hr; cases hr), fun j hj => ?_⟩
    by_cases hji : j = i
    · subst hji; exact here _ _ _ hy HH
    · have h1 := HH.2 j (ready_mono hj hji)
      obtain ⟨hjun, oj, hoj, hall⟩ := mem_ready.1 hj
      have hnot : ∀ e ∈ oj.after, Region.binds .any e = true → e.on ≠ i := fun e he hb heq => by
        have h1 := hall e he hb
        have h0 := (mem_ready.1 hr).1
        rw [heq] at h1
        rcases Nat.lt_or_ge i listed.size with h' | h'
        · simp [h'] at h0 h1; rw [h0] at h1; cases h1
        · simp [Array.getElem?_eq_none h'] at h1
      obtain ⟨g1, g2⟩ := hfree j oj hoj hji hjun hnot
      have g2 := g2 (by
        cases hrb : reachB ops.toList i 12 oj with
        | false => rfl
        | true =>
          have h1 := reach_listed hcl 12 oj hall hrb
          have h0 := getD_ft (mem_ready.1 hr).1
          rw [h1] at h0
          cases h0)
      have h2 := yOp_put hoj g1 g2 hy h1
      have hfree' : ∀ k ok, ops[k]? = some ok → k ≠ i → (listed.setIfInBounds j true).getD k true = false →
          (∀ e ∈ ok.after, Region.binds .any e = true → e.on ≠ i) → oi.apart ops ok = true ∧ (reachB ops.toList i 12 ok = false → Apart (ft i) (ft k)) := fun k ok hk hki hun hno => by
        refine hfree k ok hk hki ?_ hno
        by_cases hjk : j = k
        · subst hjk; exact hjun
        · rw [getD_set_ne true hjk] at hun; exact hun
      refine yOp_mono (fun ρ' H' h3 => ih (listed.setIfInBounds j true) ρ' H' hfree' (hcl.put hj) (ready_mono hr (Ne.symm hji)) h3.1 ?_) h2
      rw [Array.setIfInBounds_comm _ _ hji]
      exact h3.2

theorem anyA_lex {J : Jd} {base : Nat} {ops : Array Oper} {fs : List Ft} {Q : (Nat → AV) → HeapF → Prop} (hgood : Good ops.toList 0 [] ops.toList fs) : ∀ (l : List Oper) (fl : List Ft) (k : Nat) (listed : Array Bool) (ρ : Nat → AV) (H : HeapF),
    (∀ j, l[j]? = ops[k + j]?) → (∀ j, fl[j]? = fs[k + j]?) → (∀ j, j < k → listed.getD j true = true) → Closed ops listed →
    Region.lexFrom .any ops l.length k listed = true → lexA X J base ops Q l fl ρ H → anyA X J base ops Q (fun i => fs.getD i ([], [])) l.length listed ρ H
  | [], [], _, _, _, _, _, _, _, _, hB, h => ⟨by simpa [Region.lexFrom] using hB, h⟩
  | [], f :: fl, _, _, _, _, _, _, _, _, _, h => by simp [lexA] at h
  | o :: l, [], _, _, _, _, _, _, _, _, _, h => by simp [lexA] at h
  | o :: l, f :: fl, k, listed, ρ, H, hl, hf, hlt, hcl, hB, h => by
    have h0 : ops[k]? = some o := by simpa using (hl 0).symm
    have hf0 : fs[k]? = some f := by simpa using (hf 0).symm
    simp only [List.length_cons, Region.lexFrom, Bool.and_eq_true] at hB
    obtain ⟨⟨hr, hfr⟩, hB'⟩ := hB
    simp only [lexA] at h
    obtain ⟨v, d, hy, hK⟩ := h
    have hfk : fs.getD k ([], []) = f := by simp [hf0]
    refine anyA_first (v := v) (d := d) h0 l.length listed ρ H (fun j oj hoj hji hun hno => ⟨Region.free_spec h0 hfr j oj hoj hji hun hno, fun hrb => ?_⟩) hcl (by simpa using hr) (by rw [hfk]; exact hy)
      (anyA_lex hgood l fl (k + 1) _ _ _ (fun j => by have := hl (j + 1); simpa [Nat.add_assoc, Nat.add_comm 1 j] using this) (fun j => by have := hf (j + 1); simpa [Nat.add_assoc, Nat.add_comm 1 j] using this)
        (fun j hj => ?_) (hcl.put (by simpa using hr)) hB' hK)
    · have hkj : k < j := by
        rcases Nat.lt_or_ge j k with h | h
        · rw [hlt j h] at hun; cases hun
        · omega
      simp only [hfk]
      cases hfj : fs[j]? with
      | none => simp [Apart, hfj]
      | some g =>
        have : fs.getD j ([], []) = g := by simp [hfj]
        rw [this]
        exact hgood.pair k j oj f g hkj (by simpa using hoj) hf0 hfj (by rw [Nat.zero_add]; exact hrb)
    · by_cases hjk : j = k
      · subst hjk
        simp only [Array.getD_eq_getD_getElem?, Array.getElem?_setIfInBounds]
        by_cases hs : j < listed.size
        · simp [hs]
        · simp [hs]
      · rw [getD_set_ne true (Ne.symm hjk)]
        exact hlt j (by omega)

theorem opsD_lex {J : Jd} {base : Nat} {ops : Array Oper} {K : Env → Heap → Prop} : ∀ (l : List Oper) (k : Nat) (done : List Foot) (e : Env) (h : Heap), opsD X J base ops.toList k done l e h K →
    ∃ fs, Good ops.toList k done l fs ∧ lexA X J base ops (fun ρ H => ∃ e' h', get e' = ρ ∧ find h' = H ∧ K e' h') l fs (get e) (find h)
  | [], k, done, e, h, hp => ⟨[], by simp [Good], e, h, rfl, rfl, hp⟩
  | o :: r, k, done, e, h, hp => by
    rw [opsD_cons] at hp
    simp only [stepD] at hp
    have step : ∀ (v : AV) (d : Delta) (lk wr : List Nat) (h' : Heap), FO ops.toList o (lk, wr) done → YA X J base ops o (get e) (find h) v d lk wr → find h' = addF d (find h) →
        (forceO o v fun v => match o.dst with
          | some t => opsD X J base ops.toList (k + 1) ((k, lk, wr) :: done) r ((t, v) :: e) h' K
          | none => opsD X J base ops.toList (k + 1) ((k, lk, wr) :: done) r e h' K) →
        ∃ fs, Good ops.toList k done (o :: r) fs ∧ lexA X J base ops (fun ρ H => ∃ e' h', get e' = ρ ∧ find h' = H ∧ K e' h') (o :: r) fs (get e) (find h) := by
      intro v d lk wr h' hfo hy hh hp
      have hp := forceO_ok hp
      cases hdst : o.dst with
      | none =>
        rw [hdst] at hp
        obtain ⟨fs, g1, g2⟩ := opsD_lex r _ _ e h' hp
        refine ⟨(lk, wr) :: fs, ⟨hfo, g1⟩, v, d, hy, ?_⟩
        rw [hdst, ← hh]
        exact g2
      | some t =>
        rw [hdst] at hp
        obtain ⟨fs, g1, g2⟩ := opsD_lex r _ _ ((t, v) :: e) h' hp
        refine ⟨(lk, wr) :: fs, ⟨hfo, g1⟩, v, d, hy, ?_⟩
        rw [hdst, ← hh, updE, ← get_cons]
        exact g2
    cases hg : guardV X.G ops.toList (get e) o with
    | none => rw [hg] at hp; exact hp.elim
    | some g =>
      rw [hg] at hp
      cases g with
      | false => exact step (.tup []) [] [] [] h (fun _ _ _ _ _ => ⟨by simp, by simp, by simp⟩) (.inl ⟨hg, rfl, rfl⟩) rfl (by unfold forceO; split <;> exact hp)
      | true =>
        simp only at hp
        cases hcal : callee X (get e) o with
        | some fa =>
          obtain ⟨f, as⟩ := fa
          rw [hcal] at hp
          simp only at hp
          cases hsh : shutAll (restrict (find h) (looks X (get e) (fun s => base + s) o)) as with
          | none => rw [hsh] at hp; exact hp.elim
          | some bs =>
            rw [hsh] at hp
            obtain ⟨rv, k1, hp⟩ := hp
            cases had : adopt (find h) (fun s => base + s) ((o.dst.getD 0) * 8) rv with
            | none => rw [had] at hp; exact hp.elim
            | some vd =>
              obtain ⟨v, d⟩ := vd
              rw [had] at hp
              simp only at hp
              cases hfo : footOK ops.toList o (looks X (get e) (fun s => base + s) o) (dIds d) done with
              | false => rw [hfo] at hp; exact hp.elim
              | true =>
                rw [hfo] at hp
                obtain ⟨h', hh', hp⟩ := addK_find _ _ _ hp
                exact step v d _ _ h' (footOK_spec hfo) (.inr ⟨hg, fun _ hi => hi, fun _ hi => hi, .inr ⟨f, as, bs, rv, hcal, hsh, k1, had⟩⟩) hh' hp
        | none =>
          rw [hcal] at hp
          simp only at hp
          cases hop : opV X (get e) (restrict (find h) (looks X (get e) (fun s => base + s) o)) (fun s => base + s) o with
          | none => rw [hop] at hp; exact hp.elim
          | some vd =>
            obtain ⟨v, d⟩ := vd
            rw [hop] at hp
            simp only at hp
            cases hfo : footOK ops.toList o (looks X (get e) (fun s => base + s) o) (dIds d) done with
            | false => rw [hfo] at hp; exact hp.elim
            | true =>
              rw [hfo] at hp
              obtain ⟨h', hh', hp⟩ := addK_find _ _ _ hp
              exact step v d _ _ h' (footOK_spec hfo) (.inr ⟨hg, fun _ hi => hi, fun _ hi => hi, .inl ⟨hcal, hop⟩⟩) hh' hp

theorem anyA_wp (hX : X.ok P) (hG : GlobOK W X.G) {J : Jd} (hfn : ∀ f as r, J.fn f as r → Fn P X.G f as r) {md : Md} {base n : Nat} {ops : Array Oper} {ft : Nat → Ft} (hd : ∀ o ∈ ops, dstOK n o = true)
    {K : (Nat → AV) → HeapF → Prop} {Q : Exit → Act → World → Prop} : ∀ (fuel : Nat) (listed : Array Bool) (φ : Phi) (H : HeapF) (ρ : Nat → AV) (a : Act) (w : World),
      anyA X J base ops K ft fuel listed ρ H → Sim W φ H ρ md n a w →
      (∀ φ' ρ' H' a' w', Sim W φ' H' ρ' md n a' w' → HExt φ H φ' H' → K ρ' H' → Q .normal a' w') → wpAnyIn md.fence 0 P .any ops Q fuel listed a w
  | 0, listed, φ, H, ρ, a, w, h, hs, hQ => ⟨h.1, hQ φ ρ H a w hs (HExt.refl _ _) h.2⟩
  | fuel + 1, listed, φ, H, ρ, a, w, h, hs, hQ => by
    refine ⟨fun h0 => hQ φ ρ H a w hs (HExt.refl _ _) (h.1 h0), fun i hi => ?_⟩
    have h1 := h.2 i hi
    unfold yOp at h1
    unfold wpOpIn
    cases hoi : ops[i]? with
    | none =>
      rw [hoi] at h1
      exact anyA_wp hX hG hfn hd fuel _ φ H ρ a w h1 hs hQ
    | some o =>
      rw [hoi] at h1
      simp only at h1 ⊢
      obtain ⟨v, d, hy, hK⟩ := h1
      have := YA.wp hX hG hfn hy hs (hd o (Array.mem_of_getElem? hoi)) (Q := Q) (C := wpAnyIn md.fence 0 P .any ops Q fuel (listed.setIfInBounds i true))
        (fun φ' a' w' g1 g2 => anyA_wp hX hG hfn hd fuel _ φ' _ _ a' w' hK g1 (fun φ2 ρ2 H2 a2 w2 q1 q2 q3 => hQ φ2 ρ2 H2 a2 w2 q1 (g2.trans q2) q3))
      split
      · rename_i hw
        rw [if_pos hw] at this
        exact this
      · rename_i hw
        rw [if_neg hw] at this
        exact ⟨fun f _ => md.fn f, this⟩

theorem Sim.drew {md : Md} {n : Nat} (h : Sim W φ H ρ md n a w) : Sim W φ H ρ md n a w.drew := ⟨h.heap.drew, h.env, h.size, h.defers⟩

theorem findDyn_le {l : List Oper} {i k : Nat} (_h : findDyn l i = some k) : True := trivial

theorem wpAnyIn_more {F : Fence} {n : Nat} {ops : Array Oper} {Q : Exit → Act → World → Prop} : ∀ (fuel : Nat) (listed : Array Bool) (a : Act) (w : World), wpAnyIn F n P .any ops Q fuel listed a w → wpAnyIn F n P .any ops Q (fuel + 1) listed a w
  | 0, listed, a, w, h => ⟨fun _ => h.2, fun i hi => by rw [h.1] at hi; cases hi⟩
  | fuel + 1, listed, a, w, h => ⟨h.1, fun i hi => wpOpIn_mono (fun a w => wpAnyIn_more fuel _ a w) (h.2 i hi)⟩
theorem wpAnyIn_le {F : Fence} {n : Nat} {ops : Array Oper} {Q : Exit → Act → World → Prop} {fuel : Nat} {listed : Array Bool} {a : Act} {w : World} (h : wpAnyIn F n P .any ops Q fuel listed a w) (m : Nat) : wpAnyIn F n P .any ops Q (fuel + m) listed a w := by
  induction m with
  | zero => exact h
  | succ m ih => exact wpAnyIn_more _ _ _ _ ih

theorem wpIn_then {F : Fence} {n : Nat} {o : Oper} {a : Act} {w : World} {K N : Act → World → Prop} {Q : Exit → Act → World → Prop} (h : o.wpIn F n P a w K (Exit.then N Q)) : o.wpIn F n P a w K Q := by
  unfold Oper.wpIn at *
  refine ⟨h.1, ?_⟩
  have h := h.2
  generalize (o.semAt F.round a.eval).run P w = r at *
  cases r with
  | ok x w' =>
    cases x <;> simp only [Oper.uponIn] at h ⊢ <;>
      first
        | exact h
        | exact ⟨h.1, CallsIn.mono h.2 fun e w'' he => by cases e <;> exact he⟩
        | exact ⟨h.1, RoundIn.mono h.2 fun e w'' he => by cases e <;> exact he⟩
  | halt x w' => cases x <;> simp only [Oper.uponIn] at h ⊢ <;> exact h

theorem lowerB_spec : ∀ {l : List Oper} {i : Nat}, lowerB l i = true → ∀ (j : Nat) (o : Oper), l[j]? = some o → (∀ e ∈ o.after, Region.binds .any e = true → e.on < i + j) ∧ ∀ g b, o.guard = some (g, b) → g < i + j
  | [], i, _, j, o, ho => by simp at ho
  | x :: l, i, h, j, o, ho => by
    simp only [lowerB] at h
    split at h
    · rename_i h1
      split at h
      · rename_i h2
        cases j with
        | zero =>
          simp only [List.getElem?_cons_zero, Option.some.injEq] at ho
          subst ho
          refine ⟨fun e he hb => ?_, fun g b hg => ?_⟩
          · have := List.all_eq_true.1 h1 e (by simpa using he)
            rw [hb] at this
            exact Nat.le_of_ble_eq_true this
          · rw [hg] at h2
            exact Nat.le_of_ble_eq_true h2
        | succ j =>
          have := lowerB_spec h j o (by simpa using ho)
          refine ⟨fun e he hb => ?_, fun g b hg => ?_⟩
          · have := this.1 e he hb; omega
          · have := this.2 g b hg; omega
      · cases h
    · cases h

theorem reachAll_spec {all : List Oper} {o : Oper} : ∀ {n : Nat}, reachAll all o n = true → ∀ i, i < n → reachB all i 12 o = true
  | 0, _, i, hi => by omega
  | n + 1, h, i, hi => by
    simp only [reachAll] at h
    split at h
    · rename_i h1
      by_cases hin : i = n
      · subst hin; exact h1
      · exact reachAll_spec h i (by omega)
    · cases h

theorem sufB_spec {all : List Oper} : ∀ {l : List Oper} {k : Nat}, sufB all l k = true → ∀ (j : Nat) (o : Oper), l[j]? = some o → ∀ i, i < k + j → reachB all i 12 o = true
  | [], k, _, j, o, ho => by simp at ho
  | x :: l, k, h, j, o, ho => by
    simp only [sufB] at h
    split at h
    · rename_i h1
      cases j with
      | zero =>
        simp only [List.getElem?_cons_zero, Option.some.injEq] at ho
        subst ho
        exact fun i hi => reachAll_spec h1 i (by omega)
      | succ j => exact fun i hi => sufB_spec h j o (by simpa using ho) i (by omega)
    · cases h

/-- What cutOf looks at. -/
structure Cut (ops : Array Oper) (k : Nat) : Prop where
  le : k ≤ ops.size
  low : ∀ (j : Nat) (o : Oper), ops[j]? = some o → (∀ e ∈ o.after, Region.binds .any e = true → e.on < j) ∧ ∀ g b, o.guard = some (g, b) → g < j
  suf : ∀ (j : Nat) (o : Oper), ops[j]? = some o → k ≤ j → ∀ i, i < j → reachB ops.toList i 12 o = true

theorem cutOf_spec {ops : Array Oper} {k : Nat} (h : cutOf ops.toList = some k) : Cut ops k := by
  unfold cutOf at h
  split at h
  · split at h
    · rename_i h1
      split at h
      · rename_i h2
        split at h
        · rename_i h3
          cases h
          have hk := Nat.le_of_ble_eq_true h3
          rw [Array.length_toList] at hk
          refine ⟨hk, fun j o ho => ?_, fun j o ho hj i hi => ?_⟩
          · have := lowerB_spec h1 j o (by simpa using ho)
            simpa using this
          · refine sufB_spec h2 (j - k) o ?_ i (by omega)
            rw [List.getElem?_drop]
            rw [show k + (j - k) = j by omega]
            simpa using ho
        · cases h
      · cases h
    · cases h
  · cases h

theorem getD_set_self {l : Array Bool} {i : Nat} (h : i < l.size) (d : Bool) : (l.setIfInBounds i true).getD i d = true := by simp [h]

/-- Ahead of the cut: a region of its own. -/
theorem wpAnyIn_cut {F : Fence} {n : Nat} {ops pre : Array Oper} {k : Nat} (hc : Cut ops k) (hpre : ∀ i, i < k → pre[i]? = ops[i]?) (hsz : pre.size = k) {N : Act → World → Prop} {Q : Exit → Act → World → Prop}
    (hN : ∀ (listed : Array Bool) (a : Act) (w : World), listed.size = ops.size → (∀ i, i < k → listed.getD i false = true) → (∀ i, k ≤ i → listed.getD i false = false) → N a w → wpAnyIn F n P .any ops Q (ops.size - k) listed a w) :
    ∀ (fuel : Nat) (lp listed : Array Bool) (a : Act) (w : World), lp.size = k → listed.size = ops.size → (∀ i, i < k → listed.getD i false = lp.getD i false) → (∀ i, k ≤ i → listed.getD i false = false) → Closed ops listed →
      wpAnyIn F n P .any pre (Exit.then N Q) fuel lp a w → wpAnyIn F n P .any ops Q (fuel + (ops.size - k)) listed a w := by
  have unl : ∀ {l : Array Bool} {i : Nat}, i < l.size → l.getD i true = l.getD i false := fun h => by simp [h]
  -- an unlisted one of the least number is ready
  have least : ∀ (ops : Array Oper) (l : Array Bool) (m : Nat), l.size = ops.size → (∀ (j : Nat) (o : Oper), ops[j]? = some o → ∀ e ∈ o.after, Region.binds .any e = true → e.on < j) → m < ops.size → l.getD m false = false → ∃ i ∈ Region.ready .any ops l, i ≤ m := by
    intro ops l m hl hlow
    induction m using Nat.strongRecOn with
    | _ m ih =>
      intro hm hun
      by_cases hall : ∀ i, i < m → l.getD i false = true
      · refine ⟨m, mem_ready.2 ⟨by rw [unl (by omega)]; exact hun, ops[m], by simp [hm], fun e he hb => hall _ (hlow m _ (by simp [hm]) e he hb)⟩, Nat.le_refl _⟩
      · obtain ⟨i, hi⟩ := Classical.not_forall.1 hall
        obtain ⟨hi, hi2⟩ := Classical.not_imp.1 hi
        obtain ⟨i', h1, h2⟩ := ih i hi (by omega) (by simpa using hi2)
        exact ⟨i', h1, by omega⟩
  have lowP : ∀ (j : Nat) (o : Oper), pre[j]? = some o → ∀ e ∈ o.after, Region.binds .any e = true → e.on < j := by
    intro j o ho
    have hj : j < k := by have := (Array.getElem?_eq_some_iff.1 ho).1; omega
    rw [hpre j hj] at ho
    exact (hc.low j o ho).1
  have done : ∀ (lp : Array Bool), lp.size = k → Region.ready .any pre lp = [] → ∀ i, i < k → lp.getD i false = true := by
    intro lp hl hr i hi
    apply Classical.byContradiction
    intro hn
    obtain ⟨i', h1, _⟩ := least pre lp i (by omega) lowP (by omega) (by simpa using hn)
    rw [hr] at h1
    cases h1
  intro fuel
  induction fuel with
  | zero =>
    intro lp listed a w h1 h2 h3 h4 h5 h
    rw [Nat.zero_add]
    refine hN listed a w h2 (fun i hi => ?_) h4 h.2
    rw [h3 i hi]
    exact done lp h1 h.1 i hi
  | succ fuel ih =>
    intro lp listed a w h1 h2 h3 h4 h5 h
    by_cases hall : ∀ i, i < k → lp.getD i false = true
    · have hr : Region.ready .any pre lp = [] := by
        refine List.eq_nil_iff_forall_not_mem.2 fun i hi => ?_
        obtain ⟨g1, o, g2, _⟩ := mem_ready.1 hi
        have hik : i < k := by have := (Array.getElem?_eq_some_iff.1 g2).1; omega
        rw [unl (by omega), hall i hik] at g1
        cases g1
      have := hN listed a w h2 (fun i hi => by rw [h3 i hi]; exact hall i hi) h4 (h.1 hr)
      rw [Nat.add_comm]
      exact wpAnyIn_le this _
    · rw [show fuel + 1 + (ops.size - k) = (fuel + (ops.size - k)) + 1 by omega]
      obtain ⟨m, hm⟩ := Classical.not_forall.1 hall
      obtain ⟨hm, hm2⟩ := Classical.not_imp.1 hm
      have hle := hc.le
      obtain ⟨i0, hi0, _⟩ := least ops listed m h2 (fun j o ho => (hc.low j o ho).1) (by omega) (by rw [h3 m hm]; simpa using hm2)
      refine ⟨fun hr => (by rw [hr] at hi0; cases hi0), fun i hi => ?_⟩
      obtain ⟨g1, o, g2, g3⟩ := mem_ready.1 hi
      have hin := (Array.getElem?_eq_some_iff.1 g2).1
      have hik : i < k := by
        apply Classical.byContradiction
        intro hik
        have := reach_listed h5 12 o g3 (hc.suf i o g2 (by omega) m (by omega))
        rw [h3 m hm] at this
        exact hm2 this
      have g2' : pre[i]? = some o := by rw [hpre i hik]; exact g2
      have hip : i ∈ Region.ready .any pre lp := by
        refine mem_ready.2 ⟨?_, o, g2', fun e he hb => ?_⟩
        · rw [unl (by omega)] at g1 ⊢
          rw [← h3 i hik]; exact g1
        · have hlt := (hc.low i o g2).1 e he hb
          rw [← h3 _ (by omega)]
          exact g3 e he hb
      have hop := h.2 i hip
      have hcl := h5.put hi
      have next : ∀ a w, wpAnyIn F n P .any pre (Exit.then N Q) fuel (lp.setIfInBounds i true) a w → wpAnyIn F n P .any ops Q (fuel + (ops.size - k)) (listed.setIfInBounds i true) a w := by
        intro a w hh
        refine ih (lp.setIfInBounds i true) _ a w (by simpa using h1) (by simpa using h2) (fun j hj => ?_) (fun j hj => ?_) hcl hh
        · by_cases hij : i = j
          · subst hij
            rw [getD_set_self (by omega), getD_set_self (by omega)]
          · rw [getD_set_ne false hij, getD_set_ne false hij]; exact h3 j hj
        · rw [getD_set_ne false (by omega)]; exact h4 j hj
      unfold wpOpIn at hop ⊢
      rw [g2'] at hop
      rw [g2]
      simp only at hop ⊢
      have hw : Region.wanted o (yielded pre a.tmps) = Region.wanted o (yielded ops a.tmps) := by
        unfold Region.wanted
        cases hg : o.guard with
        | none => rfl
        | some gb =>
          obtain ⟨g, b⟩ := gb
          have hgl := (hc.low i o g2).2 g b hg
          have : yielded pre a.tmps g = yielded ops a.tmps g := by
            unfold yielded
            rw [hpre g (by omega)]
          simp only [this]
      rw [hw] at hop
      split
      · rename_i hwt
        rw [if_pos hwt] at hop
        exact Oper.wpIn_mono next (wpIn_then hop)
      · rename_i hwt
        rw [if_neg hwt] at hop
        exact ⟨hop.1, next _ _ hop.2⟩

/-- Behind the cut: one after another. -/
theorem wpAnyIn_tail {F : Fence} {n : Nat} {ops : Array Oper} {k : Nat} (hc : Cut ops k) {Q : Exit → Act → World → Prop} : ∀ (l : List Oper) (j : Nat) (listed : Array Bool) (a : Act) (w : World), k ≤ j → (∀ i, l[i]? = ops[j + i]?) → j + l.length = ops.size →
    listed.size = ops.size → (∀ i, i < j → listed.getD i false = true) → (∀ i, j ≤ i → listed.getD i false = false) → Closed ops listed → wpListIn F n P ops Q l a w → wpAnyIn F n P .any ops Q l.length listed a w := by
  have unl : ∀ {l : Array Bool} {i : Nat}, i < l.size → l.getD i true = l.getD i false := fun h => by simp [h]
  intro l
  induction l with
  | nil =>
    intro j listed a w _ _ hjl h2 h3 _ _ h
    refine ⟨List.eq_nil_iff_forall_not_mem.2 fun i hi => ?_, h⟩
    obtain ⟨g1, o, g2, _⟩ := mem_ready.1 hi
    have hin := (Array.getElem?_eq_some_iff.1 g2).1
    simp only [List.length_nil, Nat.add_zero] at hjl
    rw [unl (by omega), h3 i (by omega)] at g1
    cases g1
  | cons o l ih =>
    intro j listed a w hkj hl hjl h2 h3 h4 h5 h
    have hj : ops[j]? = some o := by simpa using (hl 0).symm
    simp only [List.length_cons] at hjl
    have hready : j ∈ Region.ready .any ops listed := mem_ready.2 ⟨by rw [unl (by omega)]; exact h4 j (Nat.le_refl _), o, hj, fun e he hb => h3 _ ((hc.low j o hj).1 e he hb)⟩
    refine ⟨fun hr => (by rw [hr] at hready; cases hready), fun i hi => ?_⟩
    obtain ⟨g1, oi, g2, g3⟩ := mem_ready.1 hi
    have hin := (Array.getElem?_eq_some_iff.1 g2).1
    have hij : i = j := by
      rcases Nat.lt_trichotomy i j with hlt | heq | hgt
      · rw [unl (by omega), h3 i hlt] at g1; cases g1
      · exact heq
      · have := reach_listed h5 12 oi g3 (hc.suf i oi g2 (by omega) j hgt)
        rw [h4 j (Nat.le_refl _)] at this
        cases this
    subst hij
    have next : ∀ a w, wpListIn F n P ops Q l a w → wpAnyIn F n P .any ops Q l.length (listed.setIfInBounds i true) a w := by
      intro a w hh
      refine ih (i + 1) _ a w (by omega) (fun m => by have := hl (m + 1); simpa [Nat.add_assoc, Nat.add_comm 1 m] using this) (by omega) (by simpa using h2) (fun m hm => ?_) (fun m hm => ?_) (h5.put hready) hh
      · by_cases him : i = m
        · subst him; exact getD_set_self (by omega) _
        · rw [getD_set_ne false him]; exact h3 m (by omega)
      · rw [getD_set_ne false (by omega)]; exact h4 m (by omega)
    unfold wpOpIn
    rw [hj]
    simp only
    simp only [wpListIn] at h
    split at h
    · rename_i hw
      rw [if_pos hw]
      exact Oper.wpIn_mono next h
    · rename_i hw
      rw [if_neg hw]
      exact ⟨h.1, next _ _ h.2⟩

theorem opsC_ok (hX : X.ok P) (hG : GlobOK W X.G) (hm : P.follows .mixedOrders = true) {J : Jd} (hfn : ∀ f as r, J.fn f as r → Fn P X.G f as r) (hinl : ∀ f as h K, J.inl f as h K → InlJ P X f as h K) (hyld : ∀ i as h K, J.yld i as h K → YldJ P X i as h K)
    {I : Inls} {md : Md} {base n id k : Nat} {ops : Array Oper} (hcut : cutOf ops.toList = some k) (hB : Region.lexB .any (ops.toList.take k).toArray = true)
    (hd : ∀ o ∈ ops, dstOK n o = true) {K : Env → Heap → Prop} {Q : Exit → Act → World → Prop} {e : Env} {h : Heap} {φ : Phi} {a : Act} {w : World}
    (hp : opsD X J base (ops.toList.take k) 0 [] (ops.toList.take k) e h fun e h => opsP X J I base ops.toList (ops.toList.drop k) e h K) (hs : Sim W φ (find h) (get e) md n a w)
    (hQ : ∀ φ' e' h' a' w', Sim W φ' (find h') (get e') md n a' w' → HExt φ (find h) φ' (find h') → K e' h' → Q .normal a' w') : (Code.region id ops true).wpIn md.fence 0 P Q a w := by
  have hc := cutOf_spec hcut
  have hle := hc.le
  obtain ⟨pre, hpre⟩ : ∃ pre, (ops.toList.take k).toArray = pre := ⟨_, rfl⟩
  have hpl : pre.toList = ops.toList.take k := by rw [← hpre]
  have hsz : pre.size = k := by rw [← Array.length_toList, hpl]; simp; omega
  rw [hpre] at hB
  rw [← hpl] at hp
  obtain ⟨fs, hgood, hlex⟩ := opsD_lex _ _ _ _ _ hp
  simp only [Region.lexB, Bool.and_eq_true] at hB
  have hany := anyA_lex hgood pre.toList fs 0 (Array.replicate pre.size false) _ _ (by simp) (by simp) (fun j hj => by omega) (fun j o _ hj => by rw [getD_rep] at hj; cases hj) (by simpa using hB.2) hlex
  refine wpIn_region_any hm ?_
  have hdp : ∀ o ∈ pre, dstOK n o = true := fun o ho => hd o (by
    have : o ∈ pre.toList := by simpa using ho
    rw [hpl] at this
    simpa using List.mem_of_mem_take this)
  have hw := anyA_wp (P := P) hX hG hfn hdp (Q := Exit.then (fun a w => wpListIn md.fence 0 P ops Q (ops.toList.drop k) a w) Q) pre.toList.length _ φ _ _ a w.drew hany hs.drew (fun φ' ρ' H' a' w' q1 q2 q3 => by
    obtain ⟨e', h', rfl, rfl, hk⟩ := q3
    exact opsP_ok hX hG hfn hinl hyld (ops.toList.drop k) e' h' φ' a' w' (fun o ho => hd o (by simpa using List.mem_of_mem_drop ho)) hk q1 (fun φ2 e2 h2 a2 w2 k1 k2 k3 => hQ φ2 e2 h2 a2 w2 k1 (q2.trans k2) k3))
  rw [Array.length_toList] at hw
  have := wpAnyIn_cut hc (pre := pre) (fun i hi => by
    have h1 : pre[i]? = (ops.toList.take k)[i]? := by rw [← hpl]; simp
    rw [h1, List.getElem?_take_of_lt hi]
    simp) hsz (N := fun a w => wpListIn md.fence 0 P ops Q (ops.toList.drop k) a w) (Q := Q) (fun listed a w h1 h2 h3 h4 => by
      have hlen : (ops.toList.drop k).length = ops.size - k := by simp
      rw [← hlen]
      refine wpAnyIn_tail hc (ops.toList.drop k) k listed a w (Nat.le_refl _) (fun i => by rw [List.getElem?_drop]; simp) (by simp; omega) h1 h2 h3 (fun j o ho hj e he hb => ?_) h4
      have hjk : j < k := by
        rcases Nat.lt_or_ge j k with hh | hh
        · exact hh
        · rw [h3 j hh] at hj; cases hj
      exact h2 _ (by have := (hc.low j o ho).1 e he hb; omega)) pre.size (Array.replicate pre.size false) (Array.replicate ops.size false) a w.drew (by simp [hsz]) (by simp) (fun i hi => by rw [getD_rep, getD_rep]) (fun i _ => getD_rep) (fun j o _ hj => by rw [getD_rep] at hj; cases hj) hw
  rw [hsz, show k + (ops.size - k) = ops.size by omega] at this
  exact this

theorem opsD_ok (hX : X.ok P) (hG : GlobOK W X.G) (hm : P.follows .mixedOrders = true) {J : Jd} (hfn : ∀ f as r, J.fn f as r → Fn P X.G f as r) {md : Md} {base n id : Nat} {ops : Array Oper} (hB : Region.lexB .any ops = true)
    (hd : ∀ o ∈ ops, dstOK n o = true) {K : Env → Heap → Prop} {Q : Exit → Act → World → Prop} {e : Env} {h : Heap} {φ : Phi} {a : Act} {w : World}
    (hp : opsD X J base ops.toList 0 [] ops.toList e h K) (hs : Sim W φ (find h) (get e) md n a w)
    (hQ : ∀ φ' e' h' a' w', Sim W φ' (find h') (get e') md n a' w' → HExt φ (find h) φ' (find h') → K e' h' → Q .normal a' w') : (Code.region id ops true).wpIn md.fence 0 P Q a w := by
  obtain ⟨fs, hgood, hlex⟩ := opsD_lex _ _ _ _ _ hp
  simp only [Region.lexB, Bool.and_eq_true] at hB
  have hany := anyA_lex hgood ops.toList fs 0 (Array.replicate ops.size false) _ _ (by simp) (by simp) (fun j hj => by omega) (fun j o _ hj => by rw [getD_rep] at hj; cases hj) (by simpa using hB.2) hlex
  refine wpIn_region_any hm ?_
  have := anyA_wp hX hG hfn hd (Q := Q) ops.toList.length _ φ _ _ a w.drew hany hs.drew (fun φ' ρ' H' a' w' q1 q2 q3 => by
    obtain ⟨e', h', rfl, rfl, hk⟩ := q3
    exact hQ φ' e' h' a' w' q1 q2 hk)
  rwa [Array.length_toList] at this

end Go.Proofs.YtipmkjfbdflneaaDoor.AM

namespace Go.Proofs.YtipmkjfbdflneaaDoor.AM
open Go Go.RowKit

variable {P : Program} {X : Ctx} {W : World} {φ : Phi} {H L : HeapF} {w : World} {ρ : Nat → AV} {a : Act}

/-- What has become of the blocks that are to be kept. -/
def HExtB (B : Nat → Prop) (φ : Phi) (H : HeapF) (φ' : Phi) (H' : HeapF) : Prop :=
  ∀ i x, B i → H i = some x → φ' i = φ i ∧ ∃ y, H' i = some y ∧ BlkLe x y

theorem HExt.toB {B : Nat → Prop} {φ' : Phi} {H' : HeapF} (h : HExt φ H φ' H') : HExtB B φ H φ' H' := fun i x _ hx => h i x hx
theorem HExtB.refl (B : Nat → Prop) : HExtB B φ H φ H := (HExt.refl φ H).toB
theorem HExtB.trans {B : Nat → Prop} {φ1 φ2 : Phi} {H1 H2 : HeapF} (h : HExtB B φ H φ1 H1) (k : HExtB B φ1 H1 φ2 H2) : HExtB B φ H φ2 H2 := fun i x hb hx => by
  obtain ⟨h1, y, h2, h3⟩ := h i x hb hx
  obtain ⟨k1, z, k2, k3⟩ := k i y hb h2
  exact ⟨k1.trans h1, z, k2, h3.trans k3⟩

/-- What is asked behind a piece of code. -/
def Post (W : World) (B : Nat → Prop) (md : Md) (n : Nat) (φ : Phi) (H : HeapF) (K : Ex → Env → Heap → Prop) (x : Exit) (a : Act) (w : World) : Prop :=
  ∃ φ' e h, Sim W φ' (find h) (get e) md n a w ∧ HExtB B φ H φ' (find h) ∧ match x with
    | .normal => K .normal e h
    | .exit i => K (.exit i) e h
    | .ret => K .ret e h
    | _ => False

theorem Post.ext {B : Nat → Prop} {md : Md} {n : Nat} {φ1 : Phi} {H1 : HeapF} {K : Ex → Env → Heap → Prop} {x : Exit} (he : HExtB B φ H φ1 H1) (h : Post W B md n φ1 H1 K x a w) : Post W B md n φ H K x a w := by
  obtain ⟨φ', e, hp, h1, h2, h3⟩ := h
  exact ⟨φ', e, hp, h1, he.trans h2, h3⟩

/-- The round of a loop is about to begin. -/
def LoopW (F : Fence) (P : Program) (c : Code) (Q : Exit → Act → World → Prop) (a : Act) (w : World) : Prop :=
  ∀ (b : Frame) (k : List Item) (cs : List Frame), b.roundOf = F.round → F.fn b.fn → F.room (cs.length + 1 + 0) →
    ∃ e a' w', Q e a' w' ∧ ArrivesIn (Machine.fenced P F) P (lone (b.atR a (.code c :: .inLoop c :: k)) cs w) b k cs e a' w'

section
variable {F : Fence}

theorem LoopW.mono {c : Code} {Q Q' : Exit → Act → World → Prop} (hq : ∀ e a w, Q e a w → Q' e a w) (h : LoopW F P c Q a w) : LoopW F P c Q' a w :=
  fun b k cs h1 h2 h3 => let ⟨e, a', w', q, r⟩ := h b k cs h1 h2 h3; ⟨e, a', w', hq _ _ _ q, r⟩

theorem LoopW.loop {c : Code} {Q : Exit → Act → World → Prop} (h : LoopW F P c Q a w) : (Code.loop c).wpIn F 0 P Q a w := fun b k cs h1 h2 h3 => by
  obtain ⟨e, a', w', hq, harr⟩ := h b k cs h1 h2 h3
  exact ⟨e, a', w', hq, .of_steps (.one (fenced_calm h2 h3 rfl) stepR_loop) harr⟩

theorem LoopW.step {c : Code} {Q : Exit → Act → World → Prop} (h : c.wpIn F 0 P (Exit.then (LoopW F P c Q) Q) a w) : LoopW F P c Q a w := by
  intro b k cs hro hb hr
  obtain ⟨e, a₁, w₁, hq, harr⟩ := h b (.inLoop c :: k) cs hro hb hr
  cases e with
  | normal =>
    obtain ⟨e₂, a₂, w₂, hq₂, harr₂⟩ := hq b k cs hro hb hr
    exact ⟨e₂, a₂, w₂, hq₂, .of_steps (StepsIn.trans harr (.one (fenced_calm hb hr rfl) stepR_inLoop)) harr₂⟩
  | exit id => exact ⟨_, a₁, w₁, hq, .pass (x := .inLoop c) rfl (fun _ _ => .inl (by simp)) harr⟩
  | goto l => exact ⟨_, a₁, w₁, hq, .pass (x := .inLoop c) rfl (fun _ _ => .inl (by simp)) harr⟩
  | ret => exact ⟨_, a₁, w₁, hq, .pass (x := .inLoop c) rfl (fun _ _ => .inl (by simp)) harr⟩
  | panic ch => exact ⟨_, a₁, w₁, hq, .pass (x := .inLoop c) rfl (fun _ _ => .inl (by simp)) harr⟩
  | outgrown => exact ⟨_, a₁, w₁, hq, .pass (x := .inLoop c) rfl (fun _ _ => .inl (by simp)) harr⟩
end

/-- What is to be shown of a loop. -/
structure LoopJ (P : Program) (X : Ctx) (md : Md) (n : Nat) (B : Nat → Prop) (base : Nat) (c : Code) (e : Env) (h : Heap) (K : Ex → Env → Heap → Prop) : Prop where
  out : ∀ W φ a w, GlobOK W X.G → Sim W φ (find h) (get e) md n a w → LoopW md.fence P c (Post W B md n φ (find h) K) a w

structure InlS (P : Program) (X : Ctx) (f : Nat) (as : List AV) (h : Heap) (K : AV → Heap → Prop) : Prop where
  out : InlJ P X f as h K

structure YldS (P : Program) (X : Ctx) (i : Nat) (as : List AV) (h : Heap) (K : AV → Heap → Prop) : Prop where
  out : YldJ P X i as h K

/-- What is to be shown of a range over a function. -/
structure RangeJ (P : Program) (X : Ctx) (md : Md) (n : Nat) (B : Nat → Prop) (base : Nat) (f : Operand) (ps : Array Tmp) (a b : Code) (e : Env) (h : Heap) (K : Ex → Env → Heap → Prop) : Prop where
  out : ∀ W φ a' w, GlobOK W X.G → Sim W φ (find h) (get e) md n a' w → (Code.rangeFunc f ps a b).wpIn md.fence 0 P (Post W B md n φ (find h) K) a' w

/-- The judgements, of the model. -/
def jd (P : Program) (X : Ctx) (md : Md) (n : Nat) (B : Nat → Prop) : Jd := ⟨Fn P X.G, InlS P X, YldS P X, RangeJ P X md n B, LoopJ P X md n B⟩

def codeOK (n : Nat) : Code → Bool
  | .skip => true
  | .region _ os d => os.toList.all (dstOK n) && (!d || (Region.lexB .any os && match cutOf os.toList with
    | some k => Region.lexB .any (os.toList.take k).toArray
    | none => true))
  | .seq a b => codeOK n a && codeOK n b
  | .cond _ a b => codeOK n a && codeOK n b
  | .block _ c => codeOK n c
  | .loop c => codeOK n c
  | .rangeFunc _ _ _ _ => true
  | .exit _ => true
  | .ret => true
  | _ => false

theorem codeP_ok (hX : X.ok P) (hm : P.follows .mixedOrders = true) {md : Md} {n : Nat} {B : Nat → Prop} {I : Inls} {base : Nat} : ∀ (c : Code) (e : Env) (h : Heap) (K : Ex → Env → Heap → Prop), codeOK n c = true →
    codeP X (jd P X md n B) I base c e h K → ∀ W φ a w, GlobOK W X.G → Sim W φ (find h) (get e) md n a w → c.wpIn md.fence 0 P (Post W B md n φ (find h) K) a w := by
  intro c
  induction c with
  | skip =>
    intro e h K _ hp W φ a w hG hs
    simp only [codeP_skip] at hp
    exact wpIn_skip ⟨φ, e, h, hs, HExtB.refl B, hp⟩
  | region id os d =>
    intro e h K hc hp W φ a w hG hs
    simp only [codeOK, Bool.and_eq_true, List.all_eq_true] at hc
    simp only [codeP_region] at hp
    cases d with
    | true =>
      simp only [Bool.not_true, Bool.false_or, Bool.and_eq_true] at hc
      simp only at hp
      split at hp
      · rename_i k hk
        rw [hk] at hc
        refine opsC_ok hX hG hm (J := jd P X md n B) (fun f as r h => h) (fun f as h K hi => hi.out) (fun i as h K hi => hi.out) hk hc.2.2 (fun o ho => hc.1 o (by simpa using ho)) hp hs ?_
        intro φ' e' h' a' w' q1 q2 q3
        exact ⟨φ', e', h', q1, q2.toB, q3⟩
      · refine opsD_ok hX hG hm (J := jd P X md n B) (fun f as r h => h) hc.2.1 (fun o ho => hc.1 o (by simpa using ho)) hp hs ?_
        intro φ' e' h' a' w' q1 q2 q3
        exact ⟨φ', e', h', q1, q2.toB, q3⟩
    | false =>
      simp only at hp
      refine wpIn_region_list (opsP_ok hX hG (J := jd P X md n B) (fun f as r h => h) (fun f as h K hi => hi.out) (fun i as h K hi => hi.out) os.toList e h φ a w hc.1 hp hs ?_)
      intro φ' e' h' a' w' q1 q2 q3
      exact ⟨φ', e', h', q1, q2.toB, q3⟩
  | seq x y ihx ihy =>
    intro e h K hc hp W φ a w hG hs
    simp only [codeOK, Bool.and_eq_true] at hc
    simp only [codeP_seq] at hp
    refine wpIn_seq (wpIn_mono (ihx e h _ hc.1 hp W φ a w hG hs) ?_)
    rintro x1 a1 w1 ⟨φ1, e1, h1, q1, q2, q3⟩
    cases x1 with
    | normal => exact wpIn_mono (ihy e1 h1 K hc.2 q3 W φ1 a1 w1 hG q1) fun x2 a2 w2 q => q.ext q2
    | exit i => exact ⟨φ1, e1, h1, q1, q2, q3⟩
    | ret => exact ⟨φ1, e1, h1, q1, q2, q3⟩
    | goto l => exact q3.elim
    | panic l => exact q3.elim
    | outgrown => exact q3.elim
  | cond x a1 b1 iha ihb =>
    intro e h K hc hp W φ a w hG hs
    simp only [codeOK, Bool.and_eq_true] at hc
    simp only [codeP_cond] at hp
    have hv := ev_ok hG hs.env x
    split at hp
    · rename_i y hy
      rw [hy] at hv
      simp only [Rel, PV.val] at hv
      cases y with
      | true => exact wpIn_cond_true hv.2 (iha e h K hc.1 hp W φ a w hG hs)
      | false => exact wpIn_cond_false hv.2 (ihb e h K hc.2 hp W φ a w hG hs)
    · exact hp.elim
  | block id c ih =>
    intro e h K hc hp W φ a w hG hs
    simp only [codeOK] at hc
    simp only [codeP_block] at hp
    refine wpIn_block (wpIn_mono (ih e h _ hc hp W φ a w hG hs) ?_)
    rintro x1 a1 w1 ⟨φ1, e1, h1, q1, q2, q3⟩
    cases x1 with
    | normal => exact ⟨φ1, e1, h1, q1, q2, q3⟩
    | exit j =>
      simp only at q3
      simp only [Exit.inBlock]
      split at q3
      · rename_i hb
        rw [if_pos (Nat.eq_of_beq_eq_true hb)]
        exact ⟨φ1, e1, h1, q1, q2, q3⟩
      · rename_i hb
        rw [if_neg fun he => by rw [he, Nat.beq_refl] at hb; cases hb]
        exact ⟨φ1, e1, h1, q1, q2, q3⟩
    | ret => exact ⟨φ1, e1, h1, q1, q2, q3⟩
    | goto l => exact q3.elim
    | panic l => exact q3.elim
    | outgrown => exact q3.elim
  | loop c ih =>
    intro e h K hc hp W φ a w hG hs
    simp only [codeP_loop] at hp
    have hp : LoopJ P X md n B base c e h K := hp
    exact (hp.out W φ a w hG hs).loop
  | rangeFunc f ps a1 b1 iha ihb =>
    intro e h K hc hp W φ a w hG hs
    simp only [codeP_range] at hp
    have hp : RangeJ P X md n B base f ps a1 b1 e h K := hp
    exact hp.out W φ a w hG hs
  | exit i =>
    intro e h K hc hp W φ a w hG hs
    simp only [codeP_exit] at hp
    exact wpIn_exit ⟨φ, e, h, hs, HExtB.refl B, hp⟩
  | ret =>
    intro e h K hc hp W φ a w hG hs
    simp only [codeP_ret] at hp
    exact wpIn_ret ⟨φ, e, h, hs, HExtB.refl B, hp⟩
  | _ => intro e h K hc; simp [codeOK] at hc

/-- One round of a loop. -/
theorem LoopJ.unroll (hX : X.ok P) (hm : P.follows .mixedOrders = true) {md : Md} {n : Nat} {B : Nat → Prop} {I : Inls} {base base' : Nat} {c : Code} {e : Env} {h : Heap} {K : Ex → Env → Heap → Prop} (hc : codeOK n c = true)
    (hp : codeP X (jd P X md n B) I base' c e h (fun x e' h' => match x with
      | .normal => LoopJ P X md n B base c e' h' K
      | .exit i => K (.exit i) e' h'
      | .ret => K .ret e' h')) : LoopJ P X md n B base c e h K := ⟨fun W φ a w hG hs => by
  refine LoopW.step (wpIn_mono (codeP_ok hX hm c e h _ hc hp W φ a w hG hs) ?_)
  rintro x1 a1 w1 ⟨φ1, e1, h1, q1, q2, q3⟩
  cases x1 with
  | normal => exact (LoopJ.out q3 W φ1 a1 w1 hG q1).mono fun x2 a2 w2 q => q.ext q2
  | exit i => exact ⟨φ1, e1, h1, q1, q2, q3⟩
  | ret => exact ⟨φ1, e1, h1, q1, q2, q3⟩
  | goto l => exact q3.elim
  | panic l => exact q3.elim
  | outgrown => exact q3.elim⟩

/-! ### Other names for blocks, and less known -/

mutual
def AV.ren (m : Nat → Nat) : AV → AV
  | .sl id o n => .sl (m id) o n
  | .own id => .own (m id)
  | .sa id pa o n => .sa (m id) pa o n
  | .ptr id pa => .ptr (m id) pa
  | .pe id i pa => .pe (m id) i pa
  | .pes id o n => .pes (m id) o n
  | .rp x => .rp (x.ren m)
  | .roA l => .roA (AV.renL m l)
  | .fn f l => .fn f (AV.renL m l)
  | .st l => .st (AV.renL m l)
  | .tup l => .tup (AV.renL m l)
  | .yl id => .yl (m id)
  | .mp id => .mp (m id)
  | .junk => .junk
  | .nilf => .nilf
  | .nilm => .nilm
  | .p x => .p x
  | .nil => .nil
  | .ro s l => .ro s l
def AV.renL (m : Nat → Nat) : List AV → List AV
  | [] => []
  | x :: l => x.ren m :: AV.renL m l
end

def renE (m : Nat → Nat) : Env → Env
  | [] => []
  | (t, v) :: r => (t, v.ren m) :: renE m r

def refsE : Env → List Nat
  | [] => []
  | (_, v) :: r => v.refs ++ refsE r

def Blk.ren (m : Nat → Nat) : Blk → Blk
  | .var x => .var (x.ren m)
  | .els rw s l => .els rw s l
  | .elsA l => .elsA (AV.renL m l)
  | .dead => .dead
  | .lp ps a b e n s => .lp ps a b (renE m e) n s
  | .mk => .mk
  | .mp l => .mp l

def Blk.refs : Blk → List Nat
  | .var x => x.refs
  | .elsA l => AV.refsL l
  | .lp _ _ _ e _ _ => refsE e
  | _ => []

theorem get_renE (m : Nat → Nat) (e : Env) (t : Nat) : get (renE m e) t = (get e t).ren m := by
  induction e with
  | nil => rfl
  | cons x r ih =>
    obtain ⟨u, v⟩ := x
    simp only [renE, get]
    cases Nat.beq u t with
    | true => rfl
    | false => exact ih

theorem get_refsE (e : Env) (t : Nat) : ∀ i ∈ (get e t).refs, i ∈ refsE e := by
  induction e with
  | nil => intro i hi; simp [get, AV.refs] at hi
  | cons x r ih =>
    obtain ⟨u, v⟩ := x
    intro i hi
    simp only [get] at hi
    simp only [refsE, List.mem_append]
    cases hb : Nat.beq u t with
    | true => rw [hb] at hi; exact .inl hi
    | false => rw [hb] at hi; exact .inr (ih i hi)

theorem AV.renL_length (m : Nat → Nat) (l : List AV) : (AV.renL m l).length = l.length := by
  induction l with
  | nil => rfl
  | cons x l ih => simp [AV.renL, ih]

theorem AV.renL_mem {m : Nat → Nat} {l : List AV} {x : AV} (h : x ∈ l) : x.ren m ∈ AV.renL m l := by
  induction l with
  | nil => cases h
  | cons y l ih =>
    simp only [AV.renL, List.mem_cons]
    rcases List.mem_cons.1 h with rfl | h
    · exact .inl rfl
    · exact .inr (ih h)

theorem AV.ren_stays (m : Nat → Nat) (x : AV) : (x.ren m).stays = x.stays := by cases x <;> rfl
theorem AV.ren_isAgg (m : Nat → Nat) (x : AV) : (x.ren m).isAgg = x.isAgg := by cases x <;> rfl

mutual
theorem AV.ren_sh (m : Nat → Nat) : ∀ x : AV, (x.ren m).sh = x.sh
  | .st l => by simp only [AV.ren, AV.sh]; rw [AV.renL_sh m l]
  | .junk => rfl
  | .p _ => rfl
  | .nil => rfl
  | .nilf => rfl
  | .nilm => rfl
  | .ro _ _ => rfl
  | .roA _ => rfl
  | .sl _ _ _ => rfl
  | .own _ => rfl
  | .sa _ _ _ _ => rfl
  | .ptr _ _ => rfl
  | .pe _ _ _ => rfl
  | .pes _ _ _ => rfl
  | .rp _ => rfl
  | .fn _ _ => rfl
  | .yl _ => rfl
  | .mp _ => rfl
  | .tup _ => rfl
theorem AV.renL_sh (m : Nat → Nat) : ∀ l : List AV, AV.shL (AV.renL m l) = AV.shL l
  | [] => rfl
  | x :: l => by simp only [AV.renL, AV.shL]; rw [AV.ren_sh m x, AV.renL_sh m l]
end

/-- The old memory names the blocks otherwise. -/
def Named (m : Nat → Nat) (φ : Phi) (H : HeapF) (φ' : Phi) (H' : HeapF) (i : Nat) : Prop :=
  φ' i = φ (m i) ∧ ∃ b, H' i = some b ∧ H (m i) = some (b.ren m)

mutual
theorem Rel.ren {m : Nat → Nat} {φ' : Phi} {H' : HeapF} : ∀ (x : AV) (v : Value), (∀ i ∈ x.refs, Named m φ H φ' H' i) → Rel W φ H (x.ren m) v → Rel W φ' H' x v
  | .junk, _, _, _ => by simp [Rel]
  | .p x, v, _, h => by simpa [Rel, AV.ren] using h
  | .nil, v, _, h => by simpa [Rel, AV.ren] using h
  | .nilf, v, _, h => by simpa [Rel, AV.ren] using h
  | .nilm, v, _, h => by simpa [Rel, AV.ren] using h
  | .ro s l, v, _, h => by simpa [Rel, AV.ren] using h
  | .roA l, v, hn, h => by
    simp only [Rel, AV.ren] at h ⊢
    obtain ⟨a, c, vs, h1, h2, h3, h4⟩ := h
    rw [AV.renL_length] at h1
    refine ⟨a, c, vs, h1, RelL.ren l vs hn h2, fun x hx => ?_, ?_⟩
    · have := h3 _ (AV.renL_mem hx)
      rw [AV.ren_stays, AV.ren_isAgg] at this
      exact this
    · rcases h4 with h4 | h4
      · left
        cases l with
        | nil => rfl
        | cons => simp [AV.renL] at h4
      · exact .inr h4
  | .sl id off n, v, hn, h => by
    obtain ⟨h1, b, h2, h3⟩ := hn id (by simp [AV.refs])
    simp only [Rel, AV.ren, h3] at h
    simp only [Rel, h2, h1]
    cases b <;> simp only [Blk.ren] at h ⊢ <;> exact h
  | .own id, v, hn, h => by
    obtain ⟨h1, b, h2, h3⟩ := hn id (by simp [AV.refs])
    simp only [Rel, AV.ren, h3] at h
    simp only [Rel, h2, h1]
    cases b <;> simp only [Blk.ren, AV.renL_length] at h ⊢ <;> exact h
  | .sa id p off n, v, hn, h => by
    obtain ⟨h1, b, h2, h3⟩ := hn id (by simp [AV.refs])
    simp only [Rel, AV.ren, h3] at h
    simp only [Rel, h2, h1]
    cases b <;> simp only [Blk.ren, AV.ren_sh] at h ⊢ <;> exact h
  | .ptr id p, v, hn, h => by
    obtain ⟨h1, b, h2, h3⟩ := hn id (by simp [AV.refs])
    simp only [Rel, AV.ren, h3] at h
    simp only [Rel, h2, h1]
    cases b <;> simp only [Blk.ren, AV.ren_sh] at h ⊢ <;> exact h
  | .pe id i p, v, hn, h => by
    obtain ⟨h1, b, h2, h3⟩ := hn id (by simp [AV.refs])
    simp only [Rel, AV.ren, h3] at h
    simp only [Rel, h2, h1]
    cases b <;> simp only [Blk.ren] at h ⊢ <;> exact h
  | .pes id off n, v, hn, h => by
    obtain ⟨h1, b, h2, h3⟩ := hn id (by simp [AV.refs])
    simp only [Rel, AV.ren, h3] at h
    simp only [Rel, h2, h1]
    cases b <;> simp only [Blk.ren] at h ⊢ <;> exact h
  | .yl id, v, hn, h => by
    obtain ⟨h1, b, h2, h3⟩ := hn id (by simp [AV.refs])
    simp only [Rel, AV.ren, h3] at h
    simp only [Rel, h2, h1]
    cases b <;> simp only [Blk.ren] at h ⊢ <;> exact h
  | .mp id, v, hn, h => by
    obtain ⟨h1, b, h2, h3⟩ := hn id (by simp [AV.refs])
    simp only [Rel, AV.ren, h3] at h
    simp only [Rel, h2, h1]
    cases b <;> simp only [Blk.ren] at h ⊢ <;> exact h
  | .rp x, v, hn, h => by
    simp only [Rel, AV.ren, AV.ren_stays] at h ⊢
    obtain ⟨ad, u, h1, h2, h3⟩ := h
    exact ⟨ad, u, h1, Rel.ren x u hn h2, h3⟩
  | .fn f l, v, hn, h => by
    simp only [Rel, AV.ren] at h ⊢
    obtain ⟨cs, h1, h2⟩ := h
    exact ⟨cs, h1, RelL.ren l cs hn h2⟩
  | .st l, v, hn, h => by
    simp only [Rel, AV.ren] at h ⊢
    obtain ⟨vs, h1, h2, h3⟩ := h
    refine ⟨vs, RelL.ren l vs hn h1, fun x hx => ?_, h3⟩
    have := h2 _ (AV.renL_mem hx)
    rwa [AV.ren_stays] at this
  | .tup l, v, hn, h => by
    simp only [Rel, AV.ren] at h ⊢
    obtain ⟨vs, h1, h2⟩ := h
    exact ⟨vs, RelL.ren l vs hn h1, h2⟩
theorem RelL.ren {m : Nat → Nat} {φ' : Phi} {H' : HeapF} : ∀ (l : List AV) (vs : List Value), (∀ i ∈ AV.refsL l, Named m φ H φ' H' i) → RelL W φ H (AV.renL m l) vs → RelL W φ' H' l vs
  | [], [], _, _ => by simp [RelL]
  | x :: l, v :: vs, hn, h => by
    simp only [AV.renL, RelL] at h ⊢
    exact ⟨Rel.ren x v (fun i hi => hn i (by simp [AV.refsL, hi])) h.1, RelL.ren l vs (fun i hi => hn i (by simp [AV.refsL, hi])) h.2⟩
  | [], _ :: _, _, h => by simp [AV.renL, RelL] at h
  | _ :: _, [], _, h => by simp [AV.renL, RelL] at h
end

theorem BlkOK.ren {m : Nat → Nat} {φ' : Phi} {H' : HeapF} {i : Nat} {b : Blk} (hi : φ' i = φ (m i)) (hn : ∀ j ∈ b.refs, Named m φ H φ' H' j) (h : BlkOK W φ H w (m i) (b.ren m)) : BlkOK W φ' H' w i b := by
  cases b with
  | dead => trivial
  | var x =>
    simp only [Blk.ren, BlkOK, AV.ren_stays] at h
    obtain ⟨h0, b, c, cs, T, v, h1, h2, h3, h4⟩ := h
    exact ⟨h0, b, c, cs, T, v, hi.trans h1, h2, Rel.ren x v hn h3, h4⟩
  | els rw' s l =>
    simp only [Blk.ren, BlkOK] at h ⊢
    rw [hi]
    exact h
  | elsA l =>
    simp only [Blk.ren, BlkOK] at h ⊢
    obtain ⟨b, cap, cs, T, fr, vs, h1, h2, h3, h4, h5⟩ := h
    refine ⟨b, cap, cs, T, fr, vs, hi.trans h1, h2, RelL.ren l vs hn h3, fun x hx => ?_, h5⟩
    have := h4 _ (AV.renL_mem hx)
    rw [AV.ren_stays, AV.ren_isAgg] at this
    exact this
  | lp ps a' b' e n s =>
    simp only [Blk.ren, BlkOK] at h ⊢
    obtain ⟨b, c, r, h1, h2, h3, h4, h5, h6, h7, h8, h9⟩ := h
    refine ⟨b, c, r, hi.trans h1, h2, h3, h4, h5, h6, h7, h8, fun t => Rel.ren _ _ (fun j hj => hn j (get_refsE e t j hj)) ?_⟩
    have := h9 t
    rwa [get_renE] at this
  | mk =>
    simp only [Blk.ren, BlkOK] at h ⊢
    rw [hi]
    exact h
  | mp l =>
    simp only [Blk.ren, BlkOK] at h ⊢
    rw [hi]
    exact h

def mapN : List (Nat × Nat) → Nat → Nat
  | [], i => i
  | (u, v) :: r, i => match Nat.beq u i with
    | true => v
    | false => mapN r i

def idsOf : Heap → List Nat
  | [] => []
  | (i, _) :: h => i :: idsOf h

def subN : List Nat → List Nat → Bool
  | [], _ => true
  | n :: l, m => match memN n m with
    | true => subN l m
    | false => false

theorem subN_spec {l m : List Nat} (h : subN l m = true) : ∀ i ∈ l, i ∈ m := by
  induction l with
  | nil => simp
  | cons n l ih =>
    simp only [subN] at h
    split at h
    · rename_i hn
      intro i hi
      rcases List.mem_cons.1 hi with rfl | hi
      · exact memN_iff.1 hn
      · exact ih h i hi
    · cases h

def mapNL (m : Nat → Nat) : List Nat → List Nat
  | [] => []
  | x :: l => m x :: mapNL m l

/-- What is known of the temporaries is known here too. -/
def wkE (e : Env) (m : Nat → Nat) (ids : List Nat) : Env → Prop
  | [] => True
  | (t, v) :: r => match v with
    | .junk => wkE e m ids r
    | v => get e t = v.ren m ∧ subN v.refs ids = true ∧ wkE e m ids r

def wkH (h : Heap) (m : Nat → Nat) (ids : List Nat) : Heap → Prop
  | [] => True
  | (i, b) :: r => find h (m i) = some (b.ren m) ∧ subN b.refs ids = true ∧ wkH h m ids r

/-- The state (e, h) reads as (e', h') too, a block i of h' being the block m i of h. -/
structure Weak (B : Nat → Prop) (m : List (Nat × Nat)) (e : Env) (h : Heap) (e' : Env) (h' : Heap) : Prop where
  keep : ∀ i, B i → mapN m i = i ∧ i ∈ idsOf h'
  inj : nodupN (mapNL (mapN m) (idsOf h')) = true
  env : wkE e (mapN m) (idsOf h') e'
  heap : wkH h (mapN m) (idsOf h') h'

theorem find_ids {h : Heap} {i : Nat} : i ∈ idsOf h ↔ ∃ b, find h i = some b := by
  induction h with
  | nil => simp [idsOf, find]
  | cons e h ih =>
    obtain ⟨u, b⟩ := e
    simp only [idsOf, find, List.mem_cons]
    cases hb : Nat.beq u i with
    | true => simp [(Nat.eq_of_beq_eq_true hb).symm]
    | false =>
      have : i ≠ u := fun e => by rw [e, Nat.beq_refl] at hb; cases hb
      simp [this, ih]

theorem nodupN_spec {l : List Nat} (h : nodupN l = true) : l.Nodup := by
  induction l with
  | nil => simp
  | cons n l ih =>
    simp only [nodupN] at h
    split at h
    · cases h
    · rename_i hn
      refine List.nodup_cons.2 ⟨fun hm => ?_, ih h⟩
      rw [memN_iff.2 hm] at hn
      cases hn

theorem mapNL_mem {m : Nat → Nat} {l : List Nat} {i : Nat} (h : i ∈ l) : m i ∈ mapNL m l := by
  induction l with
  | nil => cases h
  | cons n l ih =>
    simp only [mapNL, List.mem_cons]
    rcases List.mem_cons.1 h with rfl | h
    · exact .inl rfl
    · exact .inr (ih h)

theorem mapNL_inj {m : Nat → Nat} {l : List Nat} (hn : (mapNL m l).Nodup) {i j : Nat} (hi : i ∈ l) (hj : j ∈ l) (h : m i = m j) : i = j := by
  induction l with
  | nil => cases hi
  | cons n l ih =>
    simp only [mapNL] at hn
    have h1 := List.nodup_cons.1 hn
    rcases List.mem_cons.1 hi with rfl | hi'
    · rcases List.mem_cons.1 hj with rfl | hj'
      · rfl
      · exact absurd (h ▸ mapNL_mem hj') h1.1
    · rcases List.mem_cons.1 hj with rfl | hj'
      · exact absurd (h ▸ mapNL_mem hi') h1.1
      · exact ih h1.2 hi' hj'

theorem wkE_get {e : Env} {m : Nat → Nat} {ids : List Nat} {e' : Env} (h : wkE e m ids e') (t : Nat) : get e' t = .junk ∨ (get e t = (get e' t).ren m ∧ ∀ i ∈ (get e' t).refs, i ∈ ids) := by
  induction e' with
  | nil => exact .inl rfl
  | cons x r ih =>
    obtain ⟨u, v⟩ := x
    have h' : v = .junk ∧ wkE e m ids r ∨ get e u = v.ren m ∧ subN v.refs ids = true ∧ wkE e m ids r := by
      cases v <;> first
        | exact .inl ⟨rfl, h⟩
        | exact .inr h
    simp only [get]
    cases hb : Nat.beq u t with
    | true =>
      have := Nat.eq_of_beq_eq_true hb
      subst this
      rcases h' with ⟨rfl, _⟩ | ⟨h1, h2, _⟩
      · exact .inl rfl
      · exact .inr ⟨h1, subN_spec h2⟩
    | false =>
      rcases h' with ⟨_, h3⟩ | ⟨_, _, h3⟩
      · exact ih h3
      · exact ih h3

theorem wkH_find {h : Heap} {m : Nat → Nat} {ids : List Nat} {h' : Heap} (hw : wkH h m ids h') {i : Nat} {b : Blk} (hf : find h' i = some b) : find h (m i) = some (b.ren m) ∧ ∀ j ∈ b.refs, j ∈ ids := by
  induction h' with
  | nil => cases hf
  | cons x r ih =>
    obtain ⟨u, c⟩ := x
    simp only [wkH] at hw
    simp only [find] at hf
    cases hb : Nat.beq u i with
    | true =>
      rw [hb] at hf
      have := Nat.eq_of_beq_eq_true hb
      subst this
      cases hf
      exact ⟨hw.1, subN_spec hw.2.1⟩
    | false =>
      rw [hb] at hf
      exact ih hw.2.2 hf

theorem ren_le {m : Nat → Nat} (b : Blk) : BlkLe (b.ren m) b := by
  cases b <;> simp [Blk.ren, BlkLe, AV.ren_sh, AV.renL_length]

/-- Loops are walked where no mark is among the deferred calls. -/
def Md.loops : Md → Bool
  | .marks => false
  | _ => true

theorem DefOK.any {md : Md} {φ' : Phi} {H' : HeapF} {ds : List Deferred} (h : DefOK md φ H ds) (hmd : md.loops = true) : DefOK md φ' H' ds := by
  cases md with
  | marks => cases hmd
  | _ => exact h

theorem Weak.sim {B : Nat → Prop} {m : List (Nat × Nat)} {e e' : Env} {h h' : Heap} (hw : Weak B m e h e' h') {md : Md} {n : Nat} (hs : Sim W φ (find h) (get e) md n a w) (hmd : md.loops = true) :
    ∃ φ', Sim W φ' (find h') (get e') md n a w ∧ HExtB B φ (find h) φ' (find h') := by
  have named : ∀ i, i ∈ idsOf h' → Named (mapN m) φ (find h) (fun i => φ (mapN m i)) (find h') i := fun i hi => by
    obtain ⟨b, hb⟩ := find_ids.1 hi
    exact ⟨rfl, b, hb, (wkH_find hw.heap hb).1⟩
  refine ⟨fun i => φ (mapN m i), ⟨⟨hs.heap.below, fun i b hb => ?_, fun i b b1 c hb hφ => ?_, fun i j x y b c c' hx hy dx dy hij hi hj => ?_⟩, fun t => ?_, hs.size, hs.defers.any hmd⟩, fun i x hB hx => ?_⟩
  · obtain ⟨h1, h2⟩ := wkH_find hw.heap hb
    exact BlkOK.ren rfl (fun j hj => named j (h2 j hj)) (hs.heap.blk _ _ h1)
  · exact hs.heap.ge _ _ b1 c (wkH_find hw.heap hb).1 hφ
  · have hne : mapN m i ≠ mapN m j := fun he => hij (mapNL_inj (nodupN_spec hw.inj) (find_ids.2 ⟨x, hx⟩) (find_ids.2 ⟨y, hy⟩) he)
    refine hs.heap.dis _ _ _ _ b c c' (wkH_find hw.heap hx).1 (wkH_find hw.heap hy).1 (fun e => dx ?_) (fun e => dy ?_) hne hi hj
    · cases x <;> first | rfl | cases e
    · cases y <;> first | rfl | cases e
  · rcases wkE_get hw.env t with h1 | ⟨h1, h2⟩
    · rw [h1]; simp [Rel]
    · have := hs.env t
      rw [h1] at this
      exact Rel.ren _ _ (fun i hi => named i (h2 i hi)) this
  · obtain ⟨h1, h2⟩ := hw.keep i hB
    obtain ⟨b, hb⟩ := find_ids.1 h2
    have h3 := (wkH_find hw.heap hb).1
    rw [h1, hx] at h3
    cases h3
    exact ⟨congrArg φ h1, b, hb, ren_le b⟩

/-- Behind a round of a loop. -/
def roundK {σ : Type} (B : Nat → Prop) (st : σ → Env) (hp : σ → Heap) (Inv : σ → Prop) (μ : σ → Nat) (s : σ) (K : Ex → Env → Heap → Prop) : Ex → Env → Heap → Prop
  | .normal, e, h => ∃ s' m, Inv s' ∧ μ s' < μ s ∧ Weak B m e h (st s') (hp s')
  | .exit i, e, h => K (.exit i) e h
  | .ret, e, h => K .ret e h

/-- A loop, by its invariant: the state, as a function of what turns. -/
theorem LoopJ.intro (hX : X.ok P) (hm : P.follows .mixedOrders = true) {md : Md} {n : Nat} {B : Nat → Prop} {I : Inls} {base base' : Nat} {c : Code} {e : Env} {h : Heap} {K : Ex → Env → Heap → Prop} (hc : codeOK n c = true)
    {σ : Type} (st : σ → Env) (hp : σ → Heap) (Inv : σ → Prop) (μ : σ → Nat) (s0 : σ) (m0 : List (Nat × Nat)) (h0 : Inv s0) (hw : Weak B m0 e h (st s0) (hp s0))
    (hround : ∀ s, Inv s → codeP X (jd P X md n B) I base' c (st s) (hp s) (roundK B st hp Inv μ s K)) (hmd : md.loops = true := by rfl) : LoopJ P X md n B base c e h K := by
  have key : ∀ k s, μ s = k → Inv s → LoopJ P X md n B base c (st s) (hp s) K := by
    intro k
    induction k using Nat.strongRecOn with
    | _ k ih =>
      intro s hk hI
      refine ⟨fun W φ a w hG hs => LoopW.step (wpIn_mono (codeP_ok hX hm c _ _ _ hc (hround s hI) W φ a w hG hs) ?_)⟩
      rintro x1 a1 w1 ⟨φ1, e1, h1, q1, q2, q3⟩
      cases x1 with
      | normal =>
        obtain ⟨s', m, g1, g2, g3⟩ := q3
        obtain ⟨φ2, g4, g5⟩ := g3.sim q1 hmd
        exact ((ih (μ s') (hk ▸ g2) s' rfl g1).out W φ2 a1 w1 hG g4).mono fun x2 a2 w2 q => (q.ext g5).ext q2
      | exit i => exact ⟨φ1, e1, h1, q1, q2, q3⟩
      | ret => exact ⟨φ1, e1, h1, q1, q2, q3⟩
      | goto l => exact q3.elim
      | panic l => exact q3.elim
      | outgrown => exact q3.elim
  refine ⟨fun W φ a w hG hs => ?_⟩
  obtain ⟨φ1, g1, g2⟩ := hw.sim hs hmd
  exact ((key _ s0 rfl h0).out W φ1 a w hG g1).mono fun x2 a2 w2 q => q.ext g2

/-- The state that a loop begins in may be read otherwise. -/
theorem LoopJ.weak {md : Md} {n : Nat} {B : Nat → Prop} {base : Nat} {c : Code} {e e' : Env} {h h' : Heap} {K : Ex → Env → Heap → Prop} {m : List (Nat × Nat)} (hw : Weak B m e h e' h') (hl : LoopJ P X md n B base c e' h' K) (hmd : md.loops = true := by rfl) : LoopJ P X md n B base c e h K := by
  refine ⟨fun W φ a w hG hs => ?_⟩
  obtain ⟨φ1, g1, g2⟩ := hw.sim hs hmd
  exact (hl.out W φ1 a w hG g1).mono fun x2 a2 w2 q => q.ext g2

/-- The nil slice is a block of the function's own too, with nothing in it. -/
theorem LoopJ.nil {md : Md} {n : Nat} {B : Nat → Prop} {base : Nat} {c : Code} {e : Env} {h : Heap} {K : Ex → Env → Heap → Prop} (t id : Nat) (s : Sh) (ht : get e t = .nil) (hid : find h id = none)
    (hl : LoopJ P X md n B base c ((t, .own id) :: e) ((id, .els true s []) :: h) K) : LoopJ P X md n B base c e h K := by
  refine ⟨fun W φ a w hG hs => ?_⟩
  obtain ⟨g1, g2⟩ := hs.heap.put (id := id) (blk := .els true s []) (pc := none) hid ⟨trivial, trivial, by rw [upd_same]⟩ (fun b c h => by cases h) (fun b c h => by cases h)
  rw [← find_cons] at g1 g2
  refine (hl.out W _ a w hG ⟨g1, fun u => ?_, hs.size, hs.defers.mono g2⟩).mono fun x2 a2 w2 q => q.ext g2.toB
  rw [get_cons]
  by_cases hu : u = t
  · subst hu
    have := hs.env u
    rw [ht] at this
    simp only [Rel] at this
    rw [upd_same, find_cons]
    simp only [Rel, upd_same]
    exact ⟨this, trivial⟩
  · rw [upd_ne _ _ hu]
    exact Rel.mono g2 _ _ (hs.env u)

end Go.Proofs.YtipmkjfbdflneaaDoor.AM

namespace Go.Proofs.YtipmkjfbdflneaaDoor.AM
open Go Go.RowKit

variable {P : Program} {X : Ctx} {W : World} {φ : Phi} {H L : HeapF} {w : World} {ρ : Nat → AV} {a : Act}

def resVal (tmps : Array Value) : ResultVar → Sem Value
  | .tmp t => pure (tmps.getD t undef)
  | .cell a t => do loadVar t (← asAddr (tmps.getD a undef))

theorem results_eq (fn : Func) (tmps : Array Value) : results fn tmps = (do
    let vs ← fn.results.toList.mapM (resVal tmps)
    pure (if h : vs.toArray.size = 1 then vs.toArray[0] else .tuple vs.toArray)) := by
  unfold results
  rw [Array.mapM_eq_mapM_toList]
  simp only [bind_map_left]
  rfl

theorem loadV_res (hX : X.ok P) (hS : HSim W φ H w) {t : Nat} {x y : AV} {v : Value} (hr : Rel W φ H x v) (h : loadV X H t x = some y) :
    ∃ u, (do loadVar t (← asAddr v) : Sem Value).run P w = .ok u w ∧ Rel W φ H y u := by
  unfold loadV at h
  split at h
  · rename_i d hd
    split at h
    · rename_i y0 hp
      split at h
      · rename_i hf
        cases h
        simp only [Bool.and_eq_true] at hf
        obtain ⟨g1, ad, u, rfl, g2, g3⟩ := peek_ok hS (fun _ _ h => h) hr hp
        refine ⟨u, ?_, g2⟩
        simp [asAddr, load_row (hX t d hd) g2 g1 hf.1 g3]
      · cases h
    · cases h
  · cases h

theorem resAll_ok (hX : X.ok P) (hS : HSim W φ H w) (he : EnvOK W φ H ρ a) : ∀ (l : List ResultVar) (xs : List AV), resAll X ρ H l = some xs →
    ∃ vs, (l.mapM (resVal a.tmps) : Sem (List Value)).run P w = .ok vs w ∧ RelL W φ H xs vs
  | [], xs, h => by
    simp only [resAll, Option.some.injEq] at h
    subst h
    exact ⟨[], by simp, by simp [RelL]⟩
  | r :: l, xs, h => by
    simp only [resAll] at h
    split at h
    · rename_i x hx
      split at h
      · rename_i ys hys
        cases h
        obtain ⟨vs, h1, h2⟩ := resAll_ok hX hS he l ys hys
        have : ∃ v, (resVal a.tmps r).run P w = .ok v w ∧ Rel W φ H x v := by
          cases r with
          | tmp t =>
            simp only [resOne, Option.some.injEq] at hx
            subst hx
            exact ⟨_, by simp [resVal], he t⟩
          | cell t u =>
            simp only [resOne] at hx
            exact loadV_res hX hS (he t) hx
        obtain ⟨v, g1, g2⟩ := this
        refine ⟨v :: vs, ?_, by simp only [RelL]; exact ⟨g2, h2⟩⟩
        simp [List.mapM_cons, g1, h1]
      · cases h
    · cases h

theorem resV_ok (hX : X.ok P) (hS : HSim W φ H w) (he : EnvOK W φ H ρ a) {fn : Func} {x : AV} (h : resV X ρ H fn.results.toList = some x) :
    ∃ v, (results fn a.tmps).run P w = .ok v w ∧ Rel W φ H x v := by
  unfold resV at h
  rw [results_eq]
  split at h
  · rename_i y hy
    cases h
    obtain ⟨vs, h1, h2⟩ := resAll_ok hX hS he _ _ hy
    have hl := h2.length
    match vs, hl, h1, h2 with
    | [v], _, h1, h2 => exact ⟨v, by simp [h1], by simpa [RelL] using h2⟩
  · rename_i l hl hy
    cases h
    obtain ⟨vs, h1, h2⟩ := resAll_ok hX hS he _ _ hy
    have hlen := h2.length
    have hne : vs.length ≠ 1 := fun h => by
      rw [h] at hlen
      match l, hlen, hl with
      | [z], _, hl => exact hl z rfl
    refine ⟨.tuple vs.toArray, ?_, ?_⟩
    · simp [h1, hne]
    · simp only [Rel]
      exact ⟨vs, h2, rfl⟩
  · cases h

theorem get_envOf {as : List AV} {k t : Nat} : get (envOf k as) t = if k ≤ t then (as[t - k]?).getD .junk else .junk := by
  induction as generalizing k with
  | nil => simp [envOf, get]
  | cons x l ih =>
    simp only [envOf, get]
    cases hb : Nat.beq k t with
    | true =>
      have := Nat.eq_of_beq_eq_true hb
      subst this
      simp
    | false =>
      have hne : k ≠ t := fun e => by rw [e, Nat.beq_refl] at hb; cases hb
      simp only
      rw [ih]
      by_cases h1 : k + 1 ≤ t
      · rw [if_pos h1, if_pos (by omega)]
        obtain ⟨j, rfl⟩ : ∃ j, t = k + 1 + j := ⟨t - (k + 1), by omega⟩
        rw [show k + 1 + j - (k + 1) = j by omega, show k + 1 + j - k = j + 1 by omega]
        simp
      · rw [if_neg h1, if_neg (by omega)]

theorem startEnv {as : List AV} {vs : List Value} {n : Nat} (h : RelL W φ H as vs) : EnvOK W φ H (get (envOf 0 as)) { tmps := vs.toArray ++ Array.replicate (n - vs.toArray.size) undef, defers := [] } := by
  intro t
  rw [get_envOf, if_pos (Nat.zero_le _), Nat.sub_zero]
  cases hx : as[t]? with
  | none => simp [Rel]
  | some x =>
    obtain ⟨v, h1, h2⟩ := h.get hx
    have hlt : t < vs.length := (List.getElem?_eq_some_iff.1 h1).1
    have : (vs.toArray ++ Array.replicate (n - vs.toArray.size) undef).getD t undef = v := by
      rw [Array.getD_eq_getD_getElem?, Array.getElem?_append_left (by simpa using hlt)]
      simp [h1]
    simp only [Option.getD_some]
    rw [this]
    exact h2

theorem HSim.start (w : World) : HSim w noPhi (find []) w :=
  ⟨Below.refl _ _, fun id b h => by simp [find] at h, fun id b _ _ h => by simp [find] at h, fun i _ x _ _ _ _ h => by simp [find] at h⟩

theorem find_nil : find [] = noHeap := rfl

/-- A body's end. -/
theorem Post.body (hX : X.ok P) {n : Nat} {B : Nat → Prop} {fn : Func} {K : AV → Heap → Prop} {R : Ending → World → Prop} {x : Exit} (h : Post W B .plain n φ H (bodyK X fn.results.toList K) x a w)
    (hR : ∀ v φ' h' r w', HSim W φ' (find h') w' → HExtB B φ H φ' (find h') → Rel W φ' (find h') r v → K r h' → R (.returned v) w') : bodyPost P fn R x a w := by
  obtain ⟨φ', e, hp, h1, h2, h3⟩ := h
  have fin : (match resV X (get e) (find hp) fn.results.toList with
    | some v => K v hp
    | none => False) → a.defers = [] ∧ ∃ v, (results fn a.tmps).run P w = .ok v w ∧ R (.returned v) w := by
    intro h
    split at h
    · rename_i r hr
      obtain ⟨v, g1, g2⟩ := resV_ok hX h1.heap h1.env hr
      exact ⟨h1.defers, v, g1, hR v φ' hp r w h1.heap h2 g2 h⟩
    · exact h.elim
  cases x with
  | normal => exact fin h3
  | ret => exact fin h3
  | exit i => exact h3.elim
  | goto l => exact h3.elim
  | panic l => exact h3.elim
  | outgrown => exact h3.elim

def Told (r : AV) (v : AV) (h : Heap) : Prop := told (find h) r v = some r

/-- A function's contract, from the walk of its body. -/
theorem Fn.intro (hX : X.ok P) (hm : P.follows .mixedOrders = true) {I : Inls} {f : Nat} {as : List AV} {r : AV} {fn : Func} {c : Code} (base : Nat) (hf : P.funcs[f]? = some fn) (hb : fn.body = some c) (hn : (fn.name == "runtime.NumGoroutine") = false)
    (hc : codeOK fn.ntmps c = true) (hlen : Nat.ble as.length fn.ntmps = true)
    (hp : codeP X (jd P X .plain fn.ntmps fun _ => False) I base c (envOf 0 as) [] (bodyK X fn.results.toList (Told r))) : Fn P X.G f as r := by
  refine ⟨⟨fn, c, hf, hb, hn⟩, fun w vs hG hvs => calls_of_wp hf hb ?_⟩
  have hsz : (vs.toArray ++ Array.replicate (fn.ntmps - vs.toArray.size) undef).size = fn.ntmps := by
    have := hvs.length
    have := Nat.le_of_ble_eq_true hlen
    simp
    omega
  refine wpIn_wide.1 (wpIn_mono (codeP_ok hX hm c _ [] _ hc hp w noPhi _ w hG ⟨HSim.start w, startEnv (H := find []) hvs, hsz, rfl⟩) fun x a' w' h => ?_)
  exact h.body hX fun v φ' h' r' w' g1 g2 g3 g4 => ⟨v, φ', find h', r', rfl, g1, g3, g4⟩

/-- A call that goes on in the caller's memory, from the walk of the body. -/
theorem InlS.intro (hX : X.ok P) (hm : P.follows .mixedOrders = true) {I : Inls} {f : Nat} {as : List AV} {h : Heap} {K : AV → Heap → Prop} {fn : Func} {c : Code} (base : Nat) (hf : P.funcs[f]? = some fn) (hb : fn.body = some c) (hn : (fn.name == "runtime.NumGoroutine") = false)
    (hc : codeOK fn.ntmps c = true) (hlen : Nat.ble as.length fn.ntmps = true)
    (hp : codeP X (jd P X .plain fn.ntmps fun i => i ∈ idsOf h) I base c (envOf 0 as) h (bodyK X fn.results.toList K)) : InlS P X f as h K := by
  refine ⟨⟨fn, c, hf, hb, hn⟩, fun W φ w vs hG hS hvs => calls_of_wp hf hb ?_⟩
  have hsz : (vs.toArray ++ Array.replicate (fn.ntmps - vs.toArray.size) undef).size = fn.ntmps := by
    have := hvs.length
    have := Nat.le_of_ble_eq_true hlen
    simp
    omega
  refine wpIn_wide.1 (wpIn_mono (codeP_ok hX hm c _ h _ hc hp W φ _ w hG ⟨hS, startEnv hvs, hsz, rfl⟩) fun x a' w' hq => ?_)
  exact hq.body hX fun v φ' h' r' w' g1 g2 g3 g4 => ⟨v, φ', h', r', rfl, g1, fun i b hb => g2 i b (find_ids.2 ⟨b, hb⟩) hb, g3, g4⟩

end Go.Proofs.YtipmkjfbdflneaaDoor.AM

namespace Go.Proofs.YtipmkjfbdflneaaDoor.AM
open Go Go.RowKit

mutual
def PV.okB : PV → Bool
  | .i _ _ => true
  | .b _ => true
  | .str _ => true
  | .arr n s l => Nat.beq l.length n && (PV.okLB l && PV.allShB s l)
  | .st l => PV.okLB l
def PV.okLB : List PV → Bool
  | [] => true
  | x :: l => PV.okB x && PV.okLB l
def PV.allShB (s : Sh) : List PV → Bool
  | [] => true
  | x :: l => Sh.beq x.sh s && PV.allShB s l
end

mutual
theorem PV.okB_ok : ∀ x : PV, PV.okB x = true → x.ok
  | .i _ _, _ => trivial
  | .b _, _ => trivial
  | .str _, _ => trivial
  | .arr n s l, h => by
    simp only [PV.okB, Bool.and_eq_true] at h
    exact ⟨Nat.eq_of_beq_eq_true h.1, PV.okLB_ok l h.2.1, PV.allShB_ok s l h.2.2⟩
  | .st l, h => by
    simp only [PV.okB] at h
    exact PV.okLB_ok l h
theorem PV.okLB_ok : ∀ l : List PV, PV.okLB l = true → PV.okL l
  | [], _ => trivial
  | x :: l, h => by
    simp only [PV.okLB, Bool.and_eq_true] at h
    exact ⟨PV.okB_ok x h.1, PV.okLB_ok l h.2⟩
theorem PV.allShB_ok (s : Sh) : ∀ l : List PV, PV.allShB s l = true → PV.allSh s l
  | [], _ => trivial
  | x :: l, h => by
    simp only [PV.allShB, Bool.and_eq_true] at h
    exact ⟨Sh.eq_of_beq _ _ h.1, PV.allShB_ok s l h.2⟩
end

def avVal1 : AV → Option Value
  | .p x => match PV.okB x with
    | true => some x.val
    | false => none
  | .nil => some (.slice none 0 0)
  | .nilf => some .nilFunc
  | .nilm => some (.map none)
  | _ => none

def avValL : List AV → Option (List Value)
  | [] => some []
  | x :: l => match avVal1 x with
    | some v => match avValL l with
      | some vs => some (v :: vs)
      | none => none
    | none => none

def avVal : AV → Option Value
  | .st l => match avValL l with
    | some vs => some (.agg (vs.flatMap fun u => u.cells.toList).toArray)
    | none => none
  | x => avVal1 x

theorem avVal1_ok {x : AV} {v : Value} (h : avVal1 x = some v) : x.stays = true ∧ ∀ W φ H, Rel W φ H x v := by
  unfold avVal1 at h
  split at h
  · split at h
    · rename_i y hy
      cases h
      exact ⟨rfl, fun W φ H => Rel.plain (PV.okB_ok _ hy)⟩
    · cases h
  · cases h
    exact ⟨rfl, fun W φ H => by simp [Rel]⟩
  · cases h
    exact ⟨rfl, fun W φ H => by simp [Rel]⟩
  · cases h
    exact ⟨rfl, fun W φ H => by simp [Rel]⟩
  · cases h

theorem avValL_ok {l : List AV} {vs : List Value} (h : avValL l = some vs) : (∀ x ∈ l, x.stays = true) ∧ ∀ W φ H, RelL W φ H l vs := by
  induction l generalizing vs with
  | nil => simp only [avValL, Option.some.injEq] at h; subst h; exact ⟨by simp, fun W φ H => by simp [RelL]⟩
  | cons x l ih =>
    simp only [avValL] at h
    split at h
    · rename_i v hv
      split at h
      · rename_i us hus
        cases h
        obtain ⟨h1, h2⟩ := avVal1_ok hv
        obtain ⟨h3, h4⟩ := ih hus
        refine ⟨fun y hy => ?_, fun W φ H => ?_⟩
        · rcases List.mem_cons.1 hy with rfl | hy
          · exact h1
          · exact h3 y hy
        · simp only [RelL]; exact ⟨h2 W φ H, h4 W φ H⟩
      · cases h
    · cases h

theorem avVal_ok {x : AV} {v : Value} (h : avVal x = some v) : x.stays = true ∧ ∀ W φ H, Rel W φ H x v := by
  unfold avVal at h
  split at h
  · split at h
    · rename_i vs hvs
      cases h
      obtain ⟨h1, h2⟩ := avValL_ok hvs
      exact ⟨rfl, fun W φ H => by simp only [Rel]; exact ⟨vs, h2 W φ H, h1, rfl⟩⟩
    · cases h
  · exact avVal1_ok h

def cellB : Value → Value → Bool
  | .bool a, .bool b => a == b
  | .int k n, .int k' n' => kindBeq k k' && decide (n = n')
  | .string s, .string u => decide (s.data.toList = u.data.toList)
  | .slice none 0 0, .slice none 0 0 => true
  | .nilFunc, .nilFunc => true
  | .map none, .map none => true
  | _, _ => false

theorem cellB_eq {u v : Value} (h : cellB u v = true) : u = v := by
  unfold cellB at h
  split at h
  · simp at h; rw [h]
  · simp at h; rw [kind_of_beq h.1, h.2]
  · rename_i s u
    simp at h
    obtain ⟨s⟩ := s
    obtain ⟨u⟩ := u
    simp only at h
    rw [h]
  · rfl
  · rfl
  · rfl
  · cases h

def cellsB : List Value → List Value → Bool
  | [], [] => true
  | u :: l, v :: m => cellB u v && cellsB l m
  | _, _ => false

theorem cellsB_eq : ∀ {l m : List Value}, cellsB l m = true → l = m
  | [], [], _ => rfl
  | u :: l, v :: m, h => by
    simp only [cellsB, Bool.and_eq_true] at h
    rw [cellB_eq h.1, cellsB_eq h.2]
  | [], _ :: _, h => by simp [cellsB] at h
  | _ :: _, [], h => by simp [cellsB] at h

def valB : Value → Value → Bool
  | .agg a, .agg b => cellsB a.toList b.toList
  | u, v => cellB u v

theorem valB_eq {u v : Value} (h : valB u v = true) : u = v := by
  unfold valB at h
  split at h
  · rename_i a b
    have := cellsB_eq h
    rw [Array.toList_inj] at this
    rw [this]
  · exact cellB_eq h

def pairsB : List (Nat × Nat) → List (Nat × Nat) → Bool
  | [], [] => true
  | (a, b) :: l, (c, d) :: m => Nat.beq a c && (Nat.beq b d && pairsB l m)
  | _, _ => false

theorem pairsB_eq : ∀ {l m : List (Nat × Nat)}, pairsB l m = true → l = m
  | [], [], _ => rfl
  | (a, b) :: l, (c, d) :: m, h => by
    simp only [pairsB, Bool.and_eq_true] at h
    rw [Nat.eq_of_beq_eq_true h.1, Nat.eq_of_beq_eq_true h.2.1, pairsB_eq h.2.2]
  | [], _ :: _, h => by simp [pairsB] at h
  | _ :: _, [], h => by simp [pairsB] at h

def kindB (P : Program) (t : Nat) (k : TK) : Bool :=
  match k, P.underlying t with
  | .int k, some (.int k') => kindBeq k' k
  | .bool, some .bool => true
  | .str, some .string => true
  | .slice e, some (.slice e') => Nat.beq e' e
  | .arr n e, some (.array n' e') => Nat.beq n' n && (Nat.beq e' e && !P.eqGuardType P.depth t)
  | .st fs, some (.struct fields) => pairsB (fields.toList.map fun f => (f.offset, f.type)) fs && (!P.stoodInHeld t && (!P.eqGuardType P.depth t &&
      fields.toList.all fun f => !(f.name == "_") && (P.info? f.type).isSome))
  | .ptr e, some (.pointer e') => Nat.beq e' e
  | .map k e, some (.map k' e') => Nat.beq k' k && Nat.beq e' e
  | .other, _ => true
  | _, _ => false

theorem kindB_ok {P : Program} {t : Nat} {k : TK} (h : kindB P t k = true) : KindOK P t k := by
  unfold kindB at h
  split at h
  · rename_i k' hu
    rw [kind_of_beq h] at hu
    exact hu
  · rename_i hu; exact hu
  · rename_i hu; exact hu
  · rename_i e' hu
    rw [Nat.eq_of_beq_eq_true h] at hu
    exact hu
  · rename_i n' e' hu
    simp only [Bool.and_eq_true, Bool.not_eq_true'] at h
    rw [Nat.eq_of_beq_eq_true h.1, Nat.eq_of_beq_eq_true h.2.1] at hu
    exact ⟨hu, h.2.2⟩
  · rename_i fields hu
    simp only [Bool.and_eq_true, Bool.not_eq_true', List.all_eq_true, beq_eq_false_iff_ne, Option.isSome_iff_exists] at h
    exact ⟨fields, hu, pairsB_eq h.1, h.2.1, h.2.2.1, fun f hf => (h.2.2.2 f hf).1, fun f hf => (h.2.2.2 f hf).2⟩
  · rename_i e' hu
    rw [Nat.eq_of_beq_eq_true h] at hu
    exact hu
  · rename_i hu
    simp only [Bool.and_eq_true] at h
    rw [Nat.eq_of_beq_eq_true h.1, Nat.eq_of_beq_eq_true h.2] at hu
    exact hu
  · trivial
  · cases h

def aggB (P : Program) (t : Nat) (b : Bool) : Bool :=
  match P.underlying t with
  | some (.struct _) => b
  | some (.array _ _) => b
  | some _ => !b
  | none => false

theorem aggB_ok {P : Program} {t : Nat} {b : Bool} (h : aggB P t b = true) : (isAgg t).run P = fun w => .ok b w := by
  unfold aggB at h
  funext w
  cases hu : P.underlying t with
  | none => rw [hu] at h; cases h
  | some u =>
    rw [hu] at h
    simp only [isAgg, underlying]
    cases u <;> simp only at h <;> simp [hu] <;> cases b <;> simp_all

def zeroB (i : TypeInfo) (d : TD) : Bool :=
  match d.zero with
  | none => true
  | some z => match avVal z, i.zero with
    | some v, some zv => valB zv v && Nat.beq z.sh.size d.size
    | _, _ => false

def tdB (P : Program) (t : Nat) (d : TD) : Bool :=
  match P.info? t with
  | some i => Nat.beq i.size d.size && (Nat.beq i.bytes d.bytes && (zeroB i d && (kindB P t d.kind && aggB P t d.agg)))
  | none => false

theorem tdB_ok {P : Program} {t : Nat} {d : TD} (h : tdB P t d = true) : TDok P t d := by
  unfold tdB at h
  split at h
  · rename_i i hi
    simp only [Bool.and_eq_true] at h
    refine ⟨⟨i, hi, Nat.eq_of_beq_eq_true h.1, Nat.eq_of_beq_eq_true h.2.1, fun z hz => ?_⟩, kindB_ok h.2.2.2.1, aggB_ok h.2.2.2.2⟩
    have hb := h.2.2.1
    unfold zeroB at hb
    rw [hz] at hb
    simp only at hb
    split at hb
    · rename_i v zv hv hzv
      simp only [Bool.and_eq_true] at hb
      obtain ⟨h1, h2⟩ := avVal_ok hv
      rw [valB_eq hb.1] at hzv
      exact ⟨h1, Nat.eq_of_beq_eq_true hb.2, v, hzv, h2⟩
    · cases hb
  · cases h

def ttB (P : Program) : TT → Bool
  | [] => true
  | (t, d) :: r => tdB P t d && ttB P r

theorem ttB_ok {P : Program} {X : Ctx} (h : ttB P X.tt = true) : X.ok P := by
  intro t d ht
  have key : ∀ tt : TT, ttB P tt = true → tt.at t = some d → TDok P t d := by
    intro tt
    induction tt with
    | nil => intro _ h; simp [TT.at] at h
    | cons x r ih =>
      obtain ⟨u, e⟩ := x
      intro h ha
      simp only [ttB, Bool.and_eq_true] at h
      simp only [TT.at] at ha
      cases hb : Nat.beq u t with
      | true =>
        rw [hb] at ha
        have := Nat.eq_of_beq_eq_true hb
        subst this
        cases ha
        exact tdB_ok h.1
      | false =>
        rw [hb] at ha
        exact ih h.2 ha
  exact key X.tt h ht

end Go.Proofs.YtipmkjfbdflneaaDoor.AM

namespace Go.Proofs.YtipmkjfbdflneaaDoor.AM
open Go Go.RowKit Go.ChangeShapes Go.WideShapes

-- Every integer fits its kind.
mutual
def PV.wf : PV → Prop
  | .i k n => (Lit.int k n).wf = true
  | .b _ => True
  | .str _ => True
  | .arr _ _ l => PV.wfL l
  | .st l => PV.wfL l
def PV.wfL : List PV → Prop
  | [] => True
  | x :: l => x.wf ∧ PV.wfL l
end

theorem PV.wfL_iff {l : List PV} : PV.wfL l ↔ ∀ x ∈ l, x.wf := by
  induction l with
  | nil => simp [PV.wfL]
  | cons x l ih => simp [PV.wfL, ih]

theorem PV.okL_iff {l : List PV} : PV.okL l ↔ ∀ x ∈ l, x.ok := by
  induction l with
  | nil => simp [PV.okL]
  | cons x l ih => simp [PV.okL, ih]

theorem PV.allSh_iff {s : Sh} {l : List PV} : PV.allSh s l ↔ ∀ x ∈ l, x.sh = s := by
  induction l with
  | nil => simp [PV.allSh]
  | cons x l ih => simp [PV.allSh, ih]

mutual
/-- The type lies as the shape says, and has nothing in it but integers and bools. -/
def plainB (P : Program) : Nat → Nat → Sh → Bool
  | 0, _, _ => false
  | _d + 1, t, .int k => match P.underlying t with
    | some (.int k') => kindBeq k' k
    | _ => false
  | _d + 1, t, .bool => match P.underlying t with
    | some .bool => true
    | _ => false
  | d + 1, t, .arr n s => match P.underlying t with
    | some (.array n' e) => Nat.beq n' n && (Nat.beq (P.cellsOf t) (n * s.size) && (Nat.beq (P.cellsOf e) s.size && plainB P d e s))
    | _ => false
  | d + 1, t, .st l => match P.underlying t with
    | some (.struct fs) => Nat.beq (P.cellsOf t) (Sh.sizeL l) && plainF P d 0 fs.toList l
    | _ => false
  | _ + 1, _, .one => false
def plainF (P : Program) : Nat → Nat → List Field → List Sh → Bool
  | 0, _, _, _ => false
  | _ + 1, _, [], [] => true
  | d + 1, off, f :: fs, s :: l => Nat.beq f.offset off && (Nat.beq (P.cellsOf f.type) s.size && (plainB P d f.type s && plainF P d (off + s.size) fs l))
  | _, _, _, _ => false
end

theorem chunks {Q : PV → Prop} {c : Nat} : ∀ (n : Nat) (cs : List Value), cs.length = n * c → (∀ i, i < n → ∃ x, Q x ∧ x.cells = (cs.drop (i * c)).take c) →
    ∃ l : List PV, l.length = n ∧ (∀ x ∈ l, Q x) ∧ PV.cellsL l = cs
  | 0, cs, hl, _ => ⟨[], rfl, by simp, by
    have : cs = [] := List.eq_nil_of_length_eq_zero (by simpa using hl)
    rw [this]; rfl⟩
  | n + 1, cs, hl, h => by
    obtain ⟨x, hx, hc⟩ := h 0 (by omega)
    obtain ⟨l, h1, h2, h3⟩ := chunks (Q := Q) (c := c) n (cs.drop c) (by rw [List.length_drop, hl, Nat.succ_mul]; omega) fun i hi => by
      obtain ⟨y, hy, hyc⟩ := h (i + 1) (by omega)
      refine ⟨y, hy, ?_⟩
      rw [hyc, List.drop_drop, Nat.succ_mul, Nat.add_comm c]
    refine ⟨x :: l, by simp [h1], fun y hy => ?_, ?_⟩
    · rcases List.mem_cons.1 hy with rfl | hy
      · exact hx
      · exact h2 y hy
    · simp only [PV.cellsL]
      rw [hc, h3]
      simp

section
variable {T : Type} {enc : TypeId × Value → T} {P : Program} {w : World} {base : Nat} {spare : Nat → Bool} {held : Bool}

mutual
theorem plain_ok : ∀ (d t : Nat) (s : Sh) (fuel : Nat) (cs : List Value) (x : DataW T × List MemPlace), plainB P d t s = true → DataW.trod enc P w base spare held fuel t cs = some x →
    ∃ y : PV, (y.sh = s ∧ y.ok ∧ y.wf) ∧ y.cells = cs
  | 0, _, _, _, _, _, h, _ => by simp [plainB] at h
  | d + 1, t, .int k, fuel, cs, x, h, ht => by
    simp only [plainB] at h
    split at h
    · rename_i k' hu
      rw [kind_of_beq h] at hu
      obtain ⟨n, rfl, _, hw⟩ := DataW.trod_int hu ht
      exact ⟨.i k n, ⟨rfl, trivial, hw⟩, rfl⟩
    · cases h
  | d + 1, t, .bool, fuel, cs, x, h, ht => by
    simp only [plainB] at h
    split at h
    · rename_i hu
      obtain ⟨b, rfl, _⟩ := DataW.trod_bool hu ht
      exact ⟨.b b, ⟨rfl, trivial, trivial⟩, rfl⟩
    · cases h
  | d + 1, t, .arr n s, fuel, cs, x, h, ht => by
    simp only [plainB] at h
    split at h
    · rename_i n' e hu
      simp only [Bool.and_eq_true] at h
      have hn := Nat.eq_of_beq_eq_true h.1
      subst hn
      have hc := Nat.eq_of_beq_eq_true h.2.1
      have he := Nat.eq_of_beq_eq_true h.2.2.1
      obtain ⟨xs, m, _, _, hl, hx, hi⟩ := DataW.trod_array hu ht
      obtain ⟨l, h1, h2, h3⟩ := chunks (Q := fun y => y.sh = s ∧ y.ok ∧ y.wf) (c := s.size) n' cs (by rw [hl, hc]) fun i hin => by
        have := hi i hin
        rw [List.getElem?_eq_getElem (by omega), he] at this
        exact plain_ok d e s m _ _ h.2.2.2 this
      exact ⟨.arr n' s l, ⟨rfl, ⟨h1, PV.okL_iff.2 fun y hy => (h2 y hy).2.1, PV.allSh_iff.2 fun y hy => (h2 y hy).1⟩, PV.wfL_iff.2 fun y hy => (h2 y hy).2.2⟩, h3⟩
    · cases h
  | d + 1, t, .st l, fuel, cs, x, h, ht => by
    simp only [plainB] at h
    split at h
    · rename_i fs hu
      simp only [Bool.and_eq_true] at h
      have hc := Nat.eq_of_beq_eq_true h.1
      obtain ⟨xs, m, _, _, hl, hx, hi⟩ := DataW.trod_struct hu ht
      obtain ⟨ys, h1, h2, h3, h4⟩ := plain_okF d 0 fs.toList l m cs h.2 (by rw [hl, hc]; omega) fun i f hf => by
        have := hi i f (by simpa using hf)
        have hlt : i < fs.size := by
          have := (List.getElem?_eq_some_iff.1 hf).1
          simpa using this
        rw [List.getElem?_eq_getElem (by omega)] at this
        exact ⟨_, this⟩
      exact ⟨.st ys, ⟨by simp only [PV.sh, h1], h2, h3⟩, by simpa [PV.cells] using h4⟩
    · cases h
  | _ + 1, _, .one, _, _, _, h, _ => by simp [plainB] at h
theorem plain_okF : ∀ (d off : Nat) (fs : List Field) (l : List Sh) (m : Nat) (cs : List Value), plainF P d off fs l = true → cs.length = off + Sh.sizeL l →
    (∀ (i : Nat) (f : Field), fs[i]? = some f → ∃ x, DataW.trod enc P w base spare held m f.type ((cs.drop f.offset).take (P.cellsOf f.type)) = some x) →
    ∃ ys : List PV, PV.shL ys = l ∧ PV.okL ys ∧ PV.wfL ys ∧ PV.cellsL ys = cs.drop off
  | 0, _, _, _, _, _, h, _, _ => by simp [plainF] at h
  | d + 1, off, [], [], m, cs, _, hl, _ => ⟨[], rfl, trivial, trivial, by
    simp only [Sh.sizeL] at hl
    simp only [PV.cellsL]
    rw [List.drop_of_length_le (by omega)]⟩
  | d + 1, off, f :: fs, s :: l, m, cs, h, hl, hi => by
    simp only [plainF, Bool.and_eq_true] at h
    have ho := Nat.eq_of_beq_eq_true h.1
    have hz := Nat.eq_of_beq_eq_true h.2.1
    obtain ⟨x, hx⟩ := hi 0 f rfl
    rw [ho, hz] at hx
    simp only [Sh.sizeL] at hl
    obtain ⟨y, hy, hyc⟩ := plain_ok d f.type s m _ _ h.2.2.1 hx
    obtain ⟨ys, h1, h2, h3, h4⟩ := plain_okF d (off + s.size) fs l m cs h.2.2.2 (by omega) fun i f' hf => hi (i + 1) f' (by simpa using hf)
    refine ⟨y :: ys, by simp only [PV.shL, h1, hy.1], ⟨hy.2.1, h2⟩, ⟨hy.2.2, h3⟩, ?_⟩
    simp only [PV.cellsL]
    rw [hyc, h4, ← List.drop_drop, List.take_append_drop]
  | d + 1, _, [], _ :: _, _, _, h, _, _ => by simp [plainF] at h
  | d + 1, _, _ :: _, [], _, _, h, _, _ => by simp [plainF] at h
end

theorem cells?_get {a : Addr} {n : Nat} {cs : List Value} (h : w.cells? base a n = some cs) : cs.length = n ∧ ∀ j c, cs[j]? = some c → w.cell? (a.add j) = some c := by
  unfold World.cells? at h
  split at h
  · have hl := mapM_some_length h
    refine ⟨by simpa using hl, fun j c hj => ?_⟩
    have hlt : j < n := by
      have := (List.getElem?_eq_some_iff.1 hj).1
      simp at hl
      omega
    rw [mapM_some_get h j j (by simp [hlt]), hj]
  · cases h

theorem rowAt_append {a : Addr} {xs ys : List Value} (h1 : RowAt w a xs) (h2 : RowAt w (a.add xs.length) ys) : RowAt w a (xs ++ ys) := fun j c hj => by
  by_cases hlt : j < xs.length
  · rw [List.getElem?_append_left hlt] at hj
    exact h1 j c hj
  · rw [List.getElem?_append_right (by omega)] at hj
    have := h2 _ c hj
    rw [addAdd] at this
    rwa [show xs.length + (j - xs.length) = j by omega] at this

/-- So many elements of one shape, one behind the other. -/
theorem elems_ok {d e : Nat} {s : Sh} (hp : plainB P d e s = true) (hc : P.cellsOf e = s.size) {a : Addr} {m : Nat} : ∀ (n k : Nat),
    (∀ i, i < n → ∃ x, (w.cells? base (a.add ((k + i) * P.cellsOf e)) (P.cellsOf e)).bind (DataW.trod enc P w base spare held m e) = some x) →
    ∃ l : List PV, l.length = n ∧ (∀ y ∈ l, y.sh = s ∧ y.ok ∧ y.wf) ∧ RowAt w (a.add (k * s.size)) (PV.cellsL l)
  | 0, k, _ => ⟨[], rfl, by simp, fun j c hj => by simp [PV.cellsL] at hj⟩
  | n + 1, k, h => by
    obtain ⟨x, hx⟩ := h 0 (by omega)
    cases hcs : w.cells? base (a.add ((k + 0) * P.cellsOf e)) (P.cellsOf e) with
    | none => rw [hcs] at hx; simp at hx
    | some cs =>
      rw [hcs] at hx
      simp only [Option.bind_some] at hx
      obtain ⟨y, hy, hyc⟩ := plain_ok d e s m cs _ hp hx
      obtain ⟨hlen, hrow⟩ := cells?_get hcs
      rw [hc, Nat.add_zero] at hrow
      obtain ⟨l, h1, h2, h3⟩ := elems_ok hp hc n (k + 1) fun i hi => by
        have := h (i + 1) (by omega)
        rwa [show k + (i + 1) = k + 1 + i by omega] at this
      refine ⟨y :: l, by simp [h1], fun z hz => ?_, ?_⟩
      · rcases List.mem_cons.1 hz with rfl | hz
        · exact hy
        · exact h2 z hz
      · simp only [PV.cellsL]
        refine rowAt_append (by rw [hyc]; exact hrow) ?_
        rw [addAdd, hyc, hlen, hc, ← Nat.succ_mul]
        exact h3

theorem slice_ok {d t e : Nat} {s : Sh} (hu : P.underlying t = some (.slice e)) (hp : plainB P d e s = true) (hc : P.cellsOf e = s.size) {fuel : Nat} {cs : List Value} {x : DataW T × List MemPlace}
    (h : DataW.trod enc P w base spare held fuel t cs = some x) :
    ∃ (v : Value) (l : List PV), cs = [v] ∧ (∀ y ∈ l, y.sh = s ∧ y.ok ∧ y.wf) ∧ l.length ≤ maxLen ∧ Rel w noPhi noHeap (.ro s l) v := by
  rcases DataW.trod_slice hu h with ⟨rfl, _⟩ | ⟨a, len, cap, elems, rest, m, _, rfl, _, hb, hl, hm, hlen, hel, _, _⟩
  · refine ⟨_, [], rfl, by simp, by simp, ?_⟩
    simp only [Rel]
    exact ⟨none, 0, rfl, by simp, trivial, trivial, .inl trivial⟩
  · obtain ⟨l, h1, h2, h3⟩ := elems_ok (T := T) (enc := enc) (base := base) (spare := spare) (held := held) (w := w) (a := a) (m := m) hp hc len 0 fun i hi => by
      rw [Nat.zero_add, hel i hi, List.getElem?_eq_getElem (by omega)]
      exact ⟨_, rfl⟩
    refine ⟨_, l, rfl, h2, by omega, ?_⟩
    simp only [Rel]
    refine ⟨some a, cap, by rw [h1], by omega, PV.okL_iff.2 fun y hy => (h2 y hy).2.1, PV.allSh_iff.2 fun y hy => (h2 y hy).1, .inr ⟨a, rfl, ?_⟩⟩
    rw [Nat.zero_mul] at h3
    have : a.add 0 = a := by unfold Addr.add; simp
    rwa [this] at h3

/-- A plain argument. -/
theorem arg_plain {r : Reach} {b0 d t : Nat} {s : Sh} (hp : plainB P d t s = true) {v : Value} {dd : DataW T} {ps : List MemPlace} (hval : Value.okWide P w r b0 t v) (h : DataW.Trod enc P w base spare held t v dd ps) :
    ∃ y : PV, y.sh = s ∧ y.ok ∧ y.wf ∧ Rel w noPhi noHeap (.p y) v := by
  obtain ⟨fuel, hf⟩ := h
  obtain ⟨y, ⟨h1, h2, h3⟩, h4⟩ := plain_ok d t s fuel _ _ hp hf
  refine ⟨y, h1, h2, h3, ?_⟩
  simp only [Rel]
  refine ⟨h2, ?_⟩
  cases d with
  | zero => simp [plainB] at hp
  | succ d =>
    cases s with
    | one => simp [plainB] at hp
    | int k =>
      simp only [plainB] at hp
      split at hp
      · rename_i k' hu
        obtain ⟨n, rfl⟩ := okWide_int hu hval
        cases y <;> simp [PV.sh] at h1 <;> simp_all [PV.cells, Value.cells, PV.val]
      · cases hp
    | bool =>
      simp only [plainB] at hp
      split at hp
      · rename_i hu
        obtain ⟨n, rfl⟩ := okWide_bool hu hval
        cases y <;> simp [PV.sh] at h1 <;> simp_all [PV.cells, Value.cells, PV.val]
      · cases hp
    | arr n s =>
      simp only [plainB] at hp
      split at hp
      · rename_i n' e hu
        simp only [Value.okWide, hu] at hval
        obtain ⟨cs, rfl, _⟩ := hval
        cases y <;> simp [PV.sh] at h1
        simp only [PV.cells, Value.cells] at h4
        simp only [PV.val, h4]
      · cases hp
    | st l =>
      simp only [plainB] at hp
      split at hp
      · rename_i fs hu
        simp only [Value.okWide, hu] at hval
        obtain ⟨cs, rfl, _⟩ := hval
        cases y <;> simp [PV.sh] at h1
        simp only [PV.cells, Value.cells] at h4
        simp only [PV.val, h4]
      · cases hp

/-- A slice of plain data. -/
theorem arg_slice {r : Reach} {b0 d t e : Nat} {s : Sh} (hu : P.underlying t = some (.slice e)) (hp : plainB P d e s = true) (hc : P.cellsOf e = s.size) {v : Value} {dd : DataW T} {ps : List MemPlace} (hval : Value.okWide P w r b0 t v)
    (h : DataW.Trod enc P w base spare held t v dd ps) : ∃ l : List PV, (∀ y ∈ l, y.sh = s ∧ y.ok ∧ y.wf) ∧ l.length ≤ maxLen ∧ Rel w noPhi noHeap (.ro s l) v := by
  obtain ⟨a, len, cap, rfl⟩ := okWide_slice hu hval
  obtain ⟨fuel, hf⟩ := h
  obtain ⟨v, l, h1, h2, h3, h4⟩ := slice_ok hu hp hc hf
  simp [Value.cells] at h1
  subst h1
  exact ⟨l, h2, h3, h4⟩
end

/-- A law's contract, as the row asks for it. -/
theorem Fn.calls {P : Program} {G : Globs} {f : Nat} {as : List AV} (h : Fn P G f as (.p (.b true))) {w : World} (hG : GlobOK w G) {vs : List Value} (hr : RelL w noPhi noHeap as vs) :
    Calls P f vs.toArray w fun e w' => e = .returned (.bool true) ∧ Below w.heap.size w w' := by
  refine (h.2 w vs hG hr).mono ?_
  rintro e w' ⟨v, φ, H, x, rfl, h1, h2, h3⟩
  have hx : x = .p (.b true) := by
    unfold told at h3
    split at h3
    · split at h3
      · split at h3
        · cases h3
        · cases h3
      · split at h3
        · cases h3
        · cases h3
      · unfold told1 at h3
        split at h3
        · cases h3; rfl
        · unfold toldN at h3; split at h3 <;> cases h3
        · split at h3 <;> cases h3
        · split at h3 <;> cases h3
        · cases h3
    · cases h3
  subst hx
  simp only [Rel] at h2
  rw [h2.2]
  exact ⟨rfl, h1.below⟩

theorem ints_of {k : IntKind} {l : List PV} (h : ∀ y ∈ l, y.sh = .int k ∧ y.ok ∧ y.wf) : ∃ ns : List Int, l = ns.map (.i k) ∧ ∀ n ∈ ns, (Lit.int k n).wf = true := by
  induction l with
  | nil => exact ⟨[], rfl, by simp⟩
  | cons y l ih =>
    obtain ⟨ns, rfl, h2⟩ := ih fun z hz => h z (by simp [hz])
    obtain ⟨h3, _, h4⟩ := h y (by simp)
    cases y with
    | i k' n =>
      simp only [PV.sh, Sh.int.injEq] at h3
      subst h3
      refine ⟨n :: ns, rfl, fun m hm => ?_⟩
      rcases List.mem_cons.1 hm with rfl | hm
      · exact h4
      · exact h2 m hm
    | _ => simp [PV.sh] at h3

theorem arr_of {k : IntKind} {n : Nat} {y : PV} (h1 : y.sh = .arr n (.int k)) (h2 : y.ok) (h3 : y.wf) : ∃ ns : List Int, y = .arr n (.int k) (ns.map (.i k)) ∧ ns.length = n ∧ ∀ m ∈ ns, (Lit.int k m).wf = true := by
  cases y with
  | arr n' s l =>
    simp only [PV.sh, Sh.arr.injEq] at h1
    obtain ⟨rfl, rfl⟩ := h1
    obtain ⟨g1, g2, g3⟩ := h2
    obtain ⟨ns, rfl, g4⟩ := ints_of (k := k) (l := l) fun z hz => ⟨PV.allSh_iff.1 g3 z hz, PV.okL_iff.1 g2 z hz, PV.wfL_iff.1 h3 z hz⟩
    exact ⟨ns, rfl, by simpa using g1, g4⟩
  | _ => simp [PV.sh] at h1

theorem int_of {k : IntKind} {y : PV} (h1 : y.sh = .int k) (h3 : y.wf) : ∃ n, y = .i k n ∧ (Lit.int k n).wf = true := by
  cases y with
  | i k' n =>
    simp only [PV.sh, Sh.int.injEq] at h1
    subst h1
    exact ⟨n, rfl, h3⟩
  | _ => simp [PV.sh] at h1

theorem wf_u8 {n : Int} (h : (Lit.int .u8 n).wf = true) : 0 ≤ n ∧ n < 256 := by
  have := bounds_u8 h
  omega

end Go.Proofs.YtipmkjfbdflneaaDoor.AM

namespace Go.Proofs.YtipmkjfbdflneaaDoor.AM
open Go Go.Proofs

theorem rel_ro_nil {W : World} {φ : Phi} {H : HeapF} {s t : Sh} {v : Value} (h : Rel W φ H (.ro t []) v) : Rel W φ H (.ro s []) v := by
  simp only [Rel] at h ⊢
  obtain ⟨a, c, h1, h2, _, _, _⟩ := h
  exact ⟨a, c, h1, h2, trivial, trivial, .inl trivial⟩
theorem Fn.args {P : Program} {G : Globs} {f : Nat} {as bs : List AV} {r : AV} (h : Fn P G f as r) (hr : ∀ w vs, RelL w noPhi noHeap bs vs → RelL w noPhi noHeap as vs) : Fn P G f bs r :=
  ⟨h.1, fun w vs hG hv => h.2 w vs hG (hr w vs hv)⟩
theorem Fn.nil1 {P : Program} {G : Globs} {f : Nat} {s t : Sh} {as : List AV} {r : AV} (h : Fn P G f (.ro s [] :: as) r) : Fn P G f (.ro t [] :: as) r :=
  h.args fun w vs hv => by
    cases vs with
    | nil => exact hv
    | cons v vs => exact ⟨rel_ro_nil hv.1, hv.2⟩
theorem Fn.nil2 {P : Program} {G : Globs} {f : Nat} {s t : Sh} {a : AV} {as : List AV} {r : AV} (h : Fn P G f (a :: .ro s [] :: as) r) : Fn P G f (a :: .ro t [] :: as) r :=
  h.args fun w vs hv => by
    match vs, hv with
    | _ :: _ :: _, hv => exact ⟨hv.1, rel_ro_nil hv.2.1, hv.2.2⟩
theorem shL_cons {ys : List PV} {s : Sh} {r : List Sh} (h : PV.shL ys = s :: r) (hw : PV.wfL ys) : ∃ x zs, ys = x :: zs ∧ x.sh = s ∧ x.wf ∧ PV.shL zs = r ∧ PV.wfL zs := by
  cases ys with
  | nil => simp [PV.shL] at h
  | cons x zs =>
    simp only [PV.shL, List.cons.injEq] at h
    exact ⟨x, zs, rfl, h.1, hw.1, h.2, hw.2⟩
theorem shL_int {ys : List PV} {k : IntKind} {r : List Sh} (h : PV.shL ys = .int k :: r) (hw : PV.wfL ys) : ∃ n zs, ys = .i k n :: zs ∧ (Lit.int k n).wf = true ∧ PV.shL zs = r ∧ PV.wfL zs := by
  obtain ⟨x, zs, rfl, h1, h2, h3, h4⟩ := shL_cons h hw
  obtain ⟨n, rfl, h5⟩ := int_of h1 h2
  exact ⟨n, zs, rfl, h5, h3, h4⟩
theorem shL_nil {ys : List PV} (h : PV.shL ys = []) : ys = [] := by
  cases ys with
  | nil => rfl
  | cons x zs => simp [PV.shL] at h
theorem st_of {y : PV} {l : List Sh} (h : y.sh = .st l) (hw : y.wf) : ∃ ys, y = .st ys ∧ PV.shL ys = l ∧ PV.wfL ys := by
  cases y with
  | st ys =>
    simp only [PV.sh, Sh.st.injEq] at h
    exact ⟨ys, rfl, h, hw⟩
  | _ => simp [PV.sh] at h
theorem wf_u16 {n : Int} (h : (Lit.int .u16 n).wf = true) : 0 ≤ n ∧ n < 65536 := by
  simp [Lit.wf, IntKind.min, IntKind.max, IntKind.signed, IntKind.bits] at h
  omega
theorem wf_u32 {n : Int} (h : (Lit.int .u32 n).wf = true) : 0 ≤ n ∧ n < 4294967296 := by
  simp [Lit.wf, IntKind.min, IntKind.max, IntKind.signed, IntKind.bits] at h
  omega
theorem wf_u64 {n : Int} (h : (Lit.int .u64 n).wf = true) : 0 ≤ n ∧ n < 18446744073709551616 := by
  simp [Lit.wf, IntKind.min, IntKind.max, IntKind.signed, IntKind.bits] at h
  omega
theorem wf_i64 {n : Int} (h : (Lit.int .i64 n).wf = true) : -9223372036854775808 ≤ n ∧ n < 9223372036854775808 := by
  simp [Lit.wf, IntKind.min, IntKind.max, IntKind.signed, IntKind.bits] at h
  omega
theorem wr_u8 {n : Int} (h1 : 0 ≤ n) (h2 : n < 256) : IntKind.u8.wrap n = n := by
  simp [IntKind.wrap, IntKind.signed, IntKind.bits]
  omega
theorem wr_u16 {n : Int} (h1 : 0 ≤ n) (h2 : n < 65536) : IntKind.u16.wrap n = n := by
  simp [IntKind.wrap, IntKind.signed, IntKind.bits]
  omega
theorem wr_u32 {n : Int} (h1 : 0 ≤ n) (h2 : n < 4294967296) : IntKind.u32.wrap n = n := by
  simp [IntKind.wrap, IntKind.signed, IntKind.bits]
  omega
theorem wr_u64 {n : Int} (h1 : 0 ≤ n) (h2 : n < 18446744073709551616) : IntKind.u64.wrap n = n := by
  simp [IntKind.wrap, IntKind.signed, IntKind.bits]
  omega
theorem wr_i64 {n : Int} (h1 : -9223372036854775808 ≤ n) (h2 : n < 9223372036854775808) : IntKind.i64.wrap n = n := by
  simp [IntKind.wrap, IntKind.signed, IntKind.bits]
  omega
theorem incN {i : Nat} (h : i < 9223372036854775807) : AV.p (.i .i64 (IntKind.i64.wrap ((i : Int) + 1))) = AV.p (.i .i64 ((i + 1 : Nat) : Int)) := by
  rw [wr_i64 (by omega) (by omega)]
  simp
theorem capN (n : Nat) (h : n ≤ 100000000) : decide (n ≤ 140737488351232) = true := decide_eq_true (by omega)
theorem getM {α : Type} {f : α → PV} {l : List α} {i : Nat} (h : i < l.length) : getI (l.map f) (i : Int) = some (f l[i]) := by
  unfold getI
  rw [decide_eq_true (by omega)]
  simp [h]
theorem nthM {α : Type} {f : α → PV} {l : List α} {i : Nat} (h : i < l.length) : (l.map f)[(i : Int).toNat]? = some (f l[i]) := by
  simp [h]
end Go.Proofs.YtipmkjfbdflneaaDoor.AM

namespace Go.Proofs.YtipmkjfbdflneaaDoor.AM
open Go Go.RowKit

variable {P : Program} {X : Ctx} {W : World} {φ : Phi} {H L : HeapF} {w : World} {ρ : Nat → AV} {a : Act}

/-- The parameters of a round. -/
def putPs : List Tmp → List AV → Env → Env
  | t :: ts, x :: xs, e => putPs ts xs ((t, x) :: e)
  | _, _, e => e

def afterA (i : Nat) (h : Heap) (k : Heap → Prop) : Prop :=
  match find h i with
  | some (.lp ps a b e n .ready) => k ((i, .lp ps a b e n .busy) :: h)
  | _ => False

def afterB (i : Nat) (s : LSt) (h : Heap) (k : Heap → Prop) : Prop :=
  match find h i with
  | some (.lp ps a b e n .busy) => k ((i, .lp ps a b e n s) :: h)
  | _ => False

def afterL (i : Nat) (h : Heap) (k : Ex → Heap → Prop) : Prop :=
  match find h i with
  | some (.lp ps a b e n .ready) => k .normal ((i, .lp ps a b e n .ex) :: h)
  | some (.lp ps a b e n .ret) => k .ret ((i, .lp ps a b e n .ex) :: h)
  | some (.lp ps a b e n (.exit j)) => k (.exit j) ((i, .lp ps a b e n .ex) :: h)
  | _ => False

def endB (i : Nat) (K : AV → Heap → Prop) : Ex → Env → Heap → Prop
  | .normal, _, h => afterB i .ready h (K (.p (.b true)))
  | .exit j, _, h => afterB i (.exit j) h (K (.p (.b false)))
  | .ret, _, h => afterB i .ret h (K (.p (.b false)))

def endA (X : Ctx) (J : Jd) (I : Inls) (base i : Nat) (b : Code) (K : AV → Heap → Prop) : Ex → Env → Heap → Prop
  | .normal, e, h => afterA i h fun h => codeP X J I base b e h (endB i K)
  | _, _, _ => False

theorem env_put {n : Nat} : ∀ (ts : List Tmp) (xs : List AV) (vs : List Value) (e : Env) (tmps : Array Value), RelL W φ H xs vs → tmps.size = n → (ts.all fun t => Nat.blt t n) = true →
    (∀ t, Rel W φ H (get e t) (tmps.getD t undef)) →
    ((ts.zip vs).foldl (fun tmps p => tmps.setIfInBounds p.1 p.2) tmps).size = n ∧ ∀ t, Rel W φ H (get (putPs ts xs e) t) (((ts.zip vs).foldl (fun tmps p => tmps.setIfInBounds p.1 p.2) tmps).getD t undef)
  | [], xs, vs, e, tmps, _, hn, _, h => by cases xs <;> exact ⟨hn, h⟩
  | t :: ts, [], vs, e, tmps, hv, hn, _, h => by
    cases vs with
    | nil => exact ⟨hn, h⟩
    | cons v vs => simp [RelL] at hv
  | t :: ts, x :: xs, [], e, tmps, hv, hn, _, h => by simp [RelL] at hv
  | t :: ts, x :: xs, v :: vs, e, tmps, hv, hn, hts, h => by
    simp only [RelL] at hv
    simp only [List.all_cons, Bool.and_eq_true] at hts
    have ht : t < n := Nat.le_of_ble_eq_true hts.1
    refine env_put ts xs vs ((t, x) :: e) (tmps.setIfInBounds t v) hv.2 (by simpa using hn) hts.2 fun u => ?_
    rw [get_cons]
    by_cases hu : u = t
    · subst hu
      rw [upd_same]
      have : (tmps.setIfInBounds u v).getD u undef = v := by simp [Array.getD, hn, ht]
      rw [this]
      exact hv.1
    · rw [upd_ne _ _ hu]
      have : (tmps.setIfInBounds t v).getD u undef = tmps.getD u undef := by
        simp [Array.getElem?_setIfInBounds_ne (Ne.symm hu)]
      rw [this]
      exact h u

theorem fold_zip (ps : Array Tmp) (vs : List Value) (tmps : Array Value) :
    (ps.zip vs.toArray).foldl (fun tmps (t, a) => tmps.setIfInBounds t a) tmps = (ps.toList.zip vs).foldl (fun tmps p => tmps.setIfInBounds p.1 p.2) tmps := by
  rw [← Array.foldl_toList]
  simp

/-- The record of a loop turns. -/
theorem HSim.record {i l c : Nat} {ps : Array Tmp} {x y : Code} {e : Env} {n : Nat} {s s' : LSt} {r : Loop} (h : HSim W φ H w) (hi : H i = some (.lp ps x y e n s)) (hφ : φ i = some (l, c))
    (hr : w.heap[l]? = some (.loop r)) (st : LoopState) (pe : Option Code) (hs : st = s'.state) (hp : s'.pend pe) :
    HSim W φ (upd H i (some (.lp ps x y e n s'))) (w.putObj l (.loop { r with state := st, pending := pe })) ∧ HExt φ H φ (upd H i (some (.lp ps x y e n s'))) := by
  obtain ⟨l', c', r', h1, h2, h3, h4, h5, h6, h7, h8, h9⟩ := h.blk i _ hi
  rw [hφ] at h1
  cases h1
  rw [hr] at h2
  cases h2
  have hlt : l < w.heap.size := (Array.getElem?_eq_some_iff.1 hr).1
  have hle : BlkLe (.lp ps x y e n s) (.lp ps x y e n s') := trivial
  refine h.mod hi (by simp) hφ rfl rfl rfl (by simp) (fun k hk => World.putObj_heap_other hk) hle ?_
  have he : HExt φ H φ (upd H i (some (.lp ps x y e n s'))) := fun j z hz => by
    refine ⟨rfl, ?_⟩
    by_cases hj : j = i
    · subst hj
      rw [hi] at hz
      cases hz
      exact ⟨_, upd_same _ _ _, hle⟩
    · exact ⟨z, (upd_ne _ _ hj).trans hz, BlkLe.refl z⟩
  exact ⟨l, c, { r with state := st, pending := pe }, hφ, World.putObj_heap_same hlt, hs, hp, h5, h6, h7, h8, fun t => Rel.mono he _ _ (h9 t)⟩

/-- One round. -/
theorem YldS.intro (hX : X.ok P) (hm : P.follows .mixedOrders = true) {I : Inls} {i : Nat} {as : List AV} {h : Heap} {K : AV → Heap → Prop} {ps : Array Tmp} {x y : Code} {e : Env} {n : Nat} (base : Nat)
    (hi : find h i = some (.lp ps x y e n .ready)) (hlen : Nat.beq as.length ps.size = true) (hc : (codeOK n x && codeOK n y && ps.toList.all fun t => Nat.blt t n) = true)
    (hp : ∀ l, codeP X (jd P X (.round l) n fun j => j ∈ idsOf h) I base x (putPs ps.toList as e) h (endA X (jd P X (.round l) n fun j => j ∈ idsOf h) I base i y K)) : YldS P X i as h K := by
  refine ⟨fun W φ w vs l c hG hS hvs hφ => ?_⟩
  obtain ⟨l', c', r, h1, h2, h3, h4, h5, h6, h7, h8, h9⟩ := hS.blk i _ hi
  rw [hφ] at h1
  cases h1
  simp only [Bool.and_eq_true] at hc
  have hvl := hvs.length
  have hlen := Nat.eq_of_beq_eq_true hlen
  refine ⟨r, h2, by rw [hvl, hlen, h5], fun md => ?_⟩
  obtain ⟨g1, g2⟩ := env_put ps.toList as vs e r.tmps hvs h8 hc.2 h9
  refine roundIn_of_wpIn (md.fn _) ?_
  have hF : md.fence.inRound l = (Md.round l).fence := by cases md <;> rfl
  rw [hF, fold_zip, h5, h6, h7]
  have hin : ∀ {j : Nat} {b : Blk}, find h j = some b → j ∈ idsOf h := fun hb => find_ids.2 ⟨_, hb⟩
  have hii : i ∈ idsOf h := hin hi
  refine wpIn_mono (codeP_ok (md := .round l) hX hm x _ h _ hc.1.1 (hp l) W φ _ w hG ⟨hS, g2, g1, DefOK.nil⟩) ?_
  rintro e1 a1 w1 ⟨φ1, en1, hp1, q1, q2, q3⟩
  cases e1 with
  | normal =>
    simp only [endA, afterA] at q3
    split at q3
    · rename_i ps1 x1 y1 e1 n1 hf1
      obtain ⟨hφ1, _⟩ := q2 i _ hii hi
      rw [hφ] at hφ1
      obtain ⟨l', c', r1, k1, k2, k3, k4, _⟩ := q1.heap.blk i _ hf1
      rw [hφ1] at k1
      cases k1
      obtain ⟨m1, m2⟩ := q1.heap.record (s' := .busy) hf1 hφ1 k2 .busy none rfl rfl
      have hpe : r1.pending = none := k4
      have hrec : ({ r1 with state := .busy, pending := none } : Loop) = { r1 with state := .busy } := by rw [← hpe]
      rw [hrec] at m1
      rw [← find_cons] at m1 m2
      refine ⟨_, run_beginRound k2 k3, ?_⟩
      refine wpIn_mono (codeP_ok (md := .round l) hX hm y _ _ _ hc.1.2 q3 W φ1 _ _ hG ⟨m1, q1.env.mono m2, q1.size, q1.defers.mono m2⟩) ?_
      rintro e2 a2 w2 ⟨φ2, en2, hp2, t1, t2, t3⟩
      have hb1 : HExtB (fun j => j ∈ idsOf h) φ (find h) φ1 (find ((i, .lp ps1 x1 y1 e1 n1 .busy) :: hp1)) := q2.trans m2.toB
      have fin : ∀ (s' : LSt) (jump : Option Code) (xv : AV), s'.state = (if jump.isNone then .ready else .done) → s'.pend jump → (Rel W φ2 (find hp2) xv (.bool jump.isNone)) → (∀ H' φ', Rel W φ' H' xv (.bool jump.isNone)) → afterB i s' hp2 (K xv) →
          ∃ v w', (Instr.endRound l jump).run P w2 = .ok v w' ∧ ∃ v' φ' h' z, Ending.returned v = .returned v' ∧ HSim W φ' (find h') w' ∧ HExt φ (find h) φ' (find h') ∧ Rel W φ' (find h') z v' ∧ K z h' := by
        intro s' jump xv hs hpe' _ hx hk
        simp only [afterB] at hk
        split at hk
        · rename_i ps2 x2 y2 e2 n2 hf2
          obtain ⟨hφ2, _⟩ := t2 i _ hii (by rw [find_cons, upd_same])
          rw [hφ1] at hφ2
          obtain ⟨l', c', r2, k1, k2, k3, k4, _⟩ := t1.heap.blk i _ hf2
          rw [hφ2] at k1
          cases k1
          obtain ⟨m3, m4⟩ := t1.heap.record (s' := s') hf2 hφ2 k2 (if jump.isNone then .ready else .done) jump hs.symm hpe'
          rw [← find_cons] at m3 m4
          refine ⟨_, _, run_endRound jump k2, _, φ2, _, xv, rfl, m3, fun j b hb => ?_, hx _ _, hk⟩
          exact (hb1.trans (t2.trans m4.toB)) j b (hin hb) hb
        · exact hk.elim
      have tb : ∀ (b : Bool) (H' : HeapF) (φ' : Phi), Rel W φ' H' (.p (.b b)) (.bool b) := fun b H' φ' => Rel.plain (x := .b b) trivial
      cases e2 with
      | normal => exact fin .ready none (.p (.b true)) rfl rfl (tb true _ _) (tb true) t3
      | exit j => exact fin (.exit j) (some (.exit j)) (.p (.b false)) rfl rfl (tb false _ _) (tb false) t3
      | ret => exact fin .ret (some .ret) (.p (.b false)) rfl rfl (tb false _ _) (tb false) t3
      | goto l => exact t3.elim
      | panic l => exact t3.elim
      | outgrown => exact t3.elim
    · exact q3.elim
  | exit j => exact q3.elim
  | ret => exact q3.elim
  | goto l => exact q3.elim
  | panic l => exact q3.elim
  | outgrown => exact q3.elim

/-- What is known of the temporaries, or less. -/
def subEnv (e : Env) : Env → Prop
  | [] => True
  | (t, v) :: r => get e t = v ∧ subEnv e r

theorem subEnv_get {e e0 : Env} (h : subEnv e e0) (t : Nat) : get e0 t = .junk ∨ get e0 t = get e t := by
  induction e0 with
  | nil => exact .inl rfl
  | cons x r ih =>
    obtain ⟨u, v⟩ := x
    simp only [subEnv] at h
    simp only [get]
    cases hb : Nat.beq u t with
    | true =>
      have := Nat.eq_of_beq_eq_true hb
      subst this
      exact .inr h.1.symm
    | false => exact ih h.2

/-- Behind a range over a function. -/
def endR (i : Nat) (e : Env) (K : Ex → Env → Heap → Prop) (h : Heap) : Prop := afterL i h fun x h => K x e h

/-- A range over a function: the iterator is walked in the loop's memory. -/
theorem RangeJ.intro (hX : X.ok P) (hm : P.follows .mixedOrders = true) {I : Inls} {n : Nat} {B : Nat → Prop} {base : Nat} {f : Operand} {ps : Array Tmp} {x y : Code} {e : Env} {h : Heap} {K : Ex → Env → Heap → Prop}
    {fn : Func} {c : Code} {gf : Nat} {caps : List AV} (base' idL idD : Nat) (e0 : Env) (hf : ev X.G (get e) f = .fn gf caps) (hfn : P.funcs[gf]? = some fn) (hb : fn.body = some c) (hn : (fn.name == "runtime.NumGoroutine") = false)
    (hc : codeOK fn.ntmps c = true) (hlen : Nat.ble (caps.length + 1) fn.ntmps = true) (hL : find h idL = none) (hD : find h idD = none) (hLD : Nat.beq idL idD = false) (he0 : ∀ t, get e0 t = .junk ∨ get e0 t = get e t)
    (hp : codeP X (jd P X .plain fn.ntmps fun i => i ∈ idsOf ((idL, .lp ps x y e0 n .ready) :: (idD, .mk) :: h)) I base' c (envOf 0 (.yl idL :: caps)) ((idL, .lp ps x y e0 n .ready) :: (idD, .mk) :: h)
      (bodyK X fn.results.toList fun _ h => endR idL e K h)) : RangeJ P X .marks n B base f ps x y e h K := by
  refine ⟨fun W φ a' w hG hs => wpIn_rangeFunc fun fid _ => ?_⟩
  have hne : idL ≠ idD := fun he => by rw [he, Nat.beq_refl] at hLD; cases hLD
  have hv := ev_ok hG hs.env f
  rw [hf] at hv
  simp only [Rel] at hv
  obtain ⟨cs, hv, hcs⟩ := hv
  obtain ⟨W1, hW1⟩ : ∃ W1, (w.alloc (.deferred (some []))).alloc (.loop { state := .ready, pending := none, fn := fid, tmps := a'.tmps, params := ps, assign := x, body := y, defers := w.heap.size }) = W1 := ⟨_, rfl⟩
  -- the two new blocks
  obtain ⟨g1, g2⟩ := hs.heap.add (w' := w.alloc (.deferred (some []))) (id := idD) (blk := .mk) (pc := some (w.heap.size, 0)) ((Below.refl _ _).alloc (Nat.le_refl _) _) hD
    ⟨w.heap.size, 0, upd_same _ _ _, World.alloc_heap_new w _⟩ (fun b c h => by cases h; exact Nat.le_refl _)
  have hL' : upd (find h) idD (some Blk.mk) idL = none := (upd_ne _ _ hne).trans hL
  have hblk : w.heap.size + 1 = (w.alloc (.deferred (some []))).heap.size := by simp
  obtain ⟨g3, g4⟩ := g1.add (w' := W1) (id := idL) (blk := .lp ps x y e0 n .ready) (pc := some (w.heap.size + 1, 0)) (by rw [← hW1]; exact (Below.refl _ _).alloc (Nat.le_refl _) _) hL'
    ⟨w.heap.size + 1, 0, { state := .ready, pending := none, fn := fid, tmps := a'.tmps, params := ps, assign := x, body := y, defers := w.heap.size }, upd_same _ _ _, by rw [← hW1, hblk]; exact World.alloc_heap_new _ _, rfl, rfl, rfl, rfl, rfl, hs.size, fun t => by
      have h1 := he0 t
      rcases h1 with h1 | h1
      · rw [h1]; simp [Rel]
      · rw [h1]
        refine Rel.mono (g2.trans ?_) _ _ (hs.env t)
        intro i b hb
        have hi : i ≠ idL := fun e => by rw [e, hL'] at hb; cases hb
        exact ⟨upd_ne _ _ hi, b, (upd_ne _ _ hi).trans hb, BlkLe.refl b⟩⟩
    (fun b c h => by cases h; simp)
  have gext := g2.trans g4
  rw [← find_cons, ← find_cons] at g3 gext
  have hround : (Md.marks).fence.round = none := rfl
  refine ⟨w.heap.size + 1, [{ target := .collected w.heap.size, args := #[] }], W1, { target := .fn (.func gf) cs.toArray, args := #[.func (.yield (w.heap.size + 1)) #[] #[]] }, W1, gf,
    #[.func (.yield (w.heap.size + 1)) #[] #[]] ++ cs.toArray, W1, ?_, ?_, fun f' _ => Md.fn _ f', ?_, Md.deep _, ?_⟩
  · rw [hround, ← hW1]; exact run_enterLoop_outer _ _ _ _ _
  · simp only [resolve, hv]
    simp [go_sem]
  · simp only [invoke, callFunc, Sem.run_bind, run_program, Result.andThen_ok, hfn, hn, hb, Option.isNone_some, Bool.false_eq_true, if_false]
    simp
  · refine Md.calls (calls_of_wp hfn hb ?_)
    have hvs : RelL W (upd (upd φ idD (some (w.heap.size, 0))) idL (some (w.heap.size + 1, 0))) (find ((idL, .lp ps x y e0 n .ready) :: (idD, .mk) :: h)) (.yl idL :: caps) (.func (.yield (w.heap.size + 1)) #[] #[] :: cs) := by
      simp only [RelL]
      refine ⟨?_, RelL.mono gext _ _ hcs⟩
      simp only [Rel, find_cons, upd_same]
      exact ⟨_, _, rfl, rfl⟩
    have hcl := hcs.length
    have hargs : (#[Value.func (.yield (w.heap.size + 1)) #[] #[]] ++ cs.toArray) = (Value.func (.yield (w.heap.size + 1)) #[] #[] :: cs).toArray := by simp
    rw [hargs]
    have hle := Nat.le_of_ble_eq_true hlen
    have hsz : ((Value.func (.yield (w.heap.size + 1)) #[] #[] :: cs).toArray ++ Array.replicate (fn.ntmps - (Value.func (.yield (w.heap.size + 1)) #[] #[] :: cs).toArray.size) undef).size = fn.ntmps := by
      simp
      omega
    refine wpIn_wide.1 (wpIn_mono (codeP_ok hX hm c _ _ _ hc hp W _ _ W1 hG ⟨g3, startEnv hvs, hsz, rfl⟩) fun z a2 w2 hq => ?_)
    refine hq.body hX fun v φ2 h2 rv w2 m1 m2 m3 m4 => ?_
    have mext : HExt φ (find h) φ2 (find h2) := gext.trans fun i b hb => m2 i b (find_ids.2 ⟨b, hb⟩) hb
    have mL := m2 idL _ (find_ids.2 ⟨_, by rw [find_cons, upd_same]⟩) (by rw [find_cons, upd_same])
    have mD := m2 idD .mk (find_ids.2 ⟨.mk, by rw [find_cons, upd_ne _ _ hne.symm, find_cons, upd_same]⟩) (by rw [find_cons, upd_ne _ _ hne.symm, find_cons, upd_same])
    rw [upd_same] at mL
    rw [upd_ne _ _ hne.symm, upd_same] at mD
    have hmark : ∀ (h3 : Heap), HExt φ2 (find h2) φ2 (find h3) → DefOK .marks φ2 (find h3) ({ target := .collected w.heap.size, args := #[] } :: a'.defers) := by
      intro h3 h3e
      obtain ⟨ids, k1, k2, k3⟩ := hs.defers
      refine ⟨idD :: ids, List.nodup_cons.2 ⟨fun hm => ?_, k1⟩, fun i hi => ?_, ?_⟩
      · rw [k2 idD hm] at hD; cases hD
      · have : ∃ φ0 H0, H0 i = some .mk ∧ HExt φ0 H0 φ2 (find h3) := by
          rcases List.mem_cons.1 hi with rfl | hi
          · obtain ⟨_, b, hb, hle⟩ := mD
            cases b <;> simp only [BlkLe] at hle
            exact ⟨φ2, find h2, hb, h3e⟩
          · exact ⟨φ, find h, k2 i hi, mext.trans h3e⟩
        obtain ⟨φ0, H0, u1, u2⟩ := this
        obtain ⟨_, b, hb, hle⟩ := u2 i _ u1
        cases b <;> simp only [BlkLe] at hle
        exact hb
      · rw [List.map_cons, k3]
        congr 1
        · simp [markOf, mD.1]
        · refine List.map_congr_left fun i hi => ?_
          obtain ⟨hp', _⟩ := mext i _ (k2 i hi)
          simp [markOf, hp']
    have fin : ∀ (s : LSt) (z : Ex) (ps2 : Array Tmp) (x2 y2 : Code) (e2 : Env) (n2 : Nat), find h2 idL = some (.lp ps2 x2 y2 e2 n2 s) → s ≠ .busy → K z e ((idL, .lp ps2 x2 y2 e2 n2 .ex) :: h2) →
        ∃ pe, s.pend pe ∧ ∃ w4, (Instr.endLoop (w.heap.size + 1)).run P w2 = .ok pe w4 ∧ ∀ zz : Exit, (match zz with
          | .normal => z = .normal
          | .exit i => z = .exit i
          | .ret => z = .ret
          | _ => False) → Post W B .marks n φ (find h) K zz { a' with defers := { target := .collected w.heap.size, args := #[] } :: a'.defers } w4 := by
      intro s z ps2 x2 y2 e2 n2 hf2 hs2 hk
      obtain ⟨l', c', r2, k1, k2, k3, k4, _⟩ := m1.blk idL _ hf2
      rw [mL.1] at k1
      cases k1
      obtain ⟨u1, u2⟩ := m1.record (s' := .ex) hf2 mL.1 k2 .exhausted r2.pending rfl trivial
      rw [← find_cons] at u1 u2
      refine ⟨r2.pending, k4, _, run_endLoop k2 (by rw [k3]; cases s <;> simp_all [LSt.state]), fun zz hzz => ?_⟩
      refine ⟨φ2, e, _, ⟨u1, (hs.env.mono mext).mono u2, hs.size, hmark _ u2⟩, (mext.trans u2).toB, ?_⟩
      cases zz <;> simp only at hzz <;> first
        | (subst hzz; exact hk)
        | exact hzz.elim
    simp only [endR, afterL] at m4
    split at m4
    · rename_i hf2
      obtain ⟨pe, k1, w4, k2, k3⟩ := fin _ .normal _ _ _ _ _ hf2 (by simp) m4
      cases k1
      exact ⟨none, w4, k2, k3 .normal rfl⟩
    · rename_i hf2
      obtain ⟨pe, k1, w4, k2, k3⟩ := fin _ .ret _ _ _ _ _ hf2 (by simp) m4
      cases k1
      exact ⟨some .ret, w4, k2, wpIn_ret (k3 .ret rfl)⟩
    · rename_i hf2
      obtain ⟨pe, k1, w4, k2, k3⟩ := fin _ (.exit _) _ _ _ _ _ hf2 (by simp) m4
      cases k1
      exact ⟨some (.exit _), w4, k2, wpIn_exit (k3 (.exit _) rfl)⟩
    · exact m4.elim

/-- The heap without marks. -/
def noMk (H : HeapF) : HeapF := fun i => match H i with
  | some .mk => none
  | x => x

theorem noMk_some {i : Nat} {b : Blk} : noMk H i = some b ↔ H i = some b ∧ b ≠ .mk := by
  unfold noMk
  split
  · rename_i h; rw [h]; exact ⟨nofun, fun hb => absurd (Option.some.inj hb.1).symm hb.2⟩
  · rename_i x h
    constructor
    · intro hb; exact ⟨hb, fun e => by subst e; exact h hb⟩
    · exact fun hb => hb.1

theorem noMk_ext : HExtM φ H φ (noMk H) := fun _ b hb hm => ⟨rfl, b, noMk_some.2 ⟨hb, hm⟩, BlkLe.refl b⟩

/-- The marks' blocks are shut, one after another. -/
theorem leave_marks {fn : Func} {tmps : Array Value} {R : Ending → World → Prop} : ∀ (ids : List Nat) (w : World), ids.Nodup →
    (∀ i ∈ ids, ∃ b c, φ i = some (b, c) ∧ w.heap[b]? = some (.deferred (some []))) → (∀ i ∈ ids, ∀ j ∈ ids, i ≠ j → ∀ b c c', φ i = some (b, c) → φ j = some (b, c') → False) →
    (∀ w', w'.os = w.os → w'.tape = w.tape → w'.output = w.output → w'.heap.size = w.heap.size → (∀ k, (∀ i ∈ ids, ∀ c, φ i ≠ some (k, c)) → w'.heap[k]? = w.heap[k]?) →
      ∃ v, (results fn tmps).run P w' = .ok v w' ∧ R (.returned v) w') →
    LeavesInM Fence.wide 0 P fn tmps R (ids.map (markOf φ)) .returning w
  | [], w, _, _, _, h => by
    simp only [List.map_nil, LeavesInM, LeavesIn]
    exact h w rfl rfl rfl rfl fun _ _ => rfl
  | i :: ids, w, hn, h1, h2, h => by
    obtain ⟨b, c, hφ, hb⟩ := h1 i (by simp)
    have hn' := List.nodup_cons.1 hn
    simp only [List.map_cons, LeavesInM]
    refine ⟨by simp, .inl ⟨b, _, by simp [markOf, hφ], run_takeDeferred hb, ?_⟩⟩
    refine leave_marks ids _ hn'.2 (fun j hj => ?_) (fun j hj k hk => h2 j (by simp [hj]) k (by simp [hk])) fun w' k1 k2 k3 k4 k5 => ?_
    · obtain ⟨b', c', hφ', hb'⟩ := h1 j (by simp [hj])
      refine ⟨b', c', hφ', (World.putObj_heap_other fun e => ?_).trans hb'⟩
      subst e
      exact h2 i (by simp) j (by simp [hj]) (fun e => hn'.1 (e ▸ hj)) _ _ _ hφ hφ'
    · refine h w' k1 k2 k3 (k4.trans (by simp)) fun k hk => (k5 k fun j hj c' => hk j (by simp [hj]) c').trans (World.putObj_heap_other fun e => ?_)
      subst e
      exact hk i (by simp) c hφ

def bodyM (X : Ctx) (rs : List ResultVar) (r : AV) : Ex → Env → Heap → Prop
  | .exit _, _, _ => False
  | _, e, h => match resV X (get e) (noMk (find h)) rs with
    | some v => told (noMk (find h)) r v = some r
    | none => False

/-- A function's contract, from the walk of its body, where this has ranges over functions. -/
theorem Fn.introM (hX : X.ok P) (hm : P.follows .mixedOrders = true) {I : Inls} {f : Nat} {as : List AV} {r : AV} {fn : Func} {c : Code} (base : Nat) (hf : P.funcs[f]? = some fn) (hb : fn.body = some c) (hn : (fn.name == "runtime.NumGoroutine") = false)
    (hc : codeOK fn.ntmps c = true) (hlen : Nat.ble as.length fn.ntmps = true)
    (hp : codeP X (jd P X .marks fn.ntmps fun _ => False) I base c (envOf 0 as) [] (bodyM X fn.results.toList r)) : Fn P X.G f as r := by
  refine ⟨⟨fn, c, hf, hb, hn⟩, fun w vs hG hvs => callsIn_wide.1 (callsIn_of_wp_marks (F := Fence.wide) (n := 0) hf hb trivial ?_)⟩
  have hsz : (vs.toArray ++ Array.replicate (fn.ntmps - vs.toArray.size) undef).size = fn.ntmps := by
    have := hvs.length
    have := Nat.le_of_ble_eq_true hlen
    simp
    omega
  refine wpIn_mono (codeP_ok (md := .marks) hX hm c _ [] _ hc hp w noPhi _ w hG ⟨HSim.start w, startEnv (H := find []) hvs, hsz, DefOK.nil⟩) fun x a' w' h => ?_
  obtain ⟨φ', e, hp', h1, h2, h3⟩ := h
  have fin : (match resV X (get e) (noMk (find hp')) fn.results.toList with
    | some v => told (noMk (find hp')) r v = some r
    | none => False) → LeavesInM Fence.wide 0 P fn a'.tmps (fun e w' => ∃ v φ H x, e = .returned v ∧ HSim w φ H w' ∧ Rel w φ H x v ∧ told H r x = some r) a'.defers .returning w' := by
    intro h
    split at h
    · rename_i z hz
      obtain ⟨ids, k1, k2, k3⟩ := h1.defers
      rw [k3]
      refine leave_marks ids w' k1 (fun i hi => ?_) (fun i hi j hj hij b c c' hb hc' => h1.heap.dis i j _ _ b c c' (k2 i hi) (k2 j hj) (by simp) (by simp) hij hb hc') fun w2 q1 q2 q3 q4 q5 => ?_
      · obtain ⟨b, c, g1, g2⟩ := h1.heap.blk i _ (k2 i hi)
        exact ⟨b, c, g1, g2⟩
      · have hsim : HSim w φ' (noMk (find hp')) w2 := by
          refine ⟨h1.heap.below.trans ⟨q1, q2, q3, Nat.le_of_eq q4.symm, fun k hk => q5 k fun i hi c hc => ?_⟩, fun i b hi => ?_, fun i b b' c hi hφ => ?_, fun i j x y b c c' hx hy dx dy hij u1 u2 => ?_⟩
          · have := h1.heap.ge i _ k c (k2 i hi) hc
            omega
          · obtain ⟨g1, g2⟩ := noMk_some.1 hi
            refine (h1.heap.blk i b g1).keepM noMk_ext rfl fun hd b' c' hφ => q5 b' fun j hj c2 hc2 => ?_
            have hij : i ≠ j := fun e => by rw [e, k2 j hj] at g1; cases g1; exact g2 rfl
            exact h1.heap.dis i j _ _ b' c' c2 g1 (k2 j hj) hd (by simp) hij hφ hc2
          · exact h1.heap.ge i b b' c (noMk_some.1 hi).1 hφ
          · exact h1.heap.dis i j x y b c c' (noMk_some.1 hx).1 (noMk_some.1 hy).1 dx dy hij u1 u2
        obtain ⟨v, g1, g2⟩ := resV_ok hX hsim (fun t => Rel.monoM noMk_ext _ _ (h1.env t)) hz
        exact ⟨v, g1, v, φ', _, z, rfl, hsim, g2, h⟩
    · exact h.elim
  cases x with
  | normal => exact fin h3
  | ret => exact fin h3
  | exit i => exact h3.elim
  | goto l => exact h3.elim
  | panic l => exact h3.elim
  | outgrown => exact h3.elim

end Go.Proofs.YtipmkjfbdflneaaDoor.AM

namespace Go.Proofs.YtipmkjfbdflneaaDoor.AM
open Go Go.RowKit

variable {P : Program} {X : Ctx} {W : World} {φ : Phi} {H L : HeapF} {w : World} {ρ : Nat → AV} {a : Act}

def pickE : List Nat → Env → Env
  | [], _ => []
  | t :: l, e => (t, get e t) :: pickE l e

def pickH : List Nat → Heap → Heap
  | [], _ => []
  | i :: l, h => match find h i with
    | some b => (i, b) :: pickH l h
    | none => pickH l h

def appE : Env → Env → Env
  | [], e => e
  | x :: d, e => x :: appE d e

def appH : Heap → Heap → Heap
  | [], h => h
  | x :: d, h => x :: appH d h

theorem keep_sub {h h' : Heap} (hs : subN (idsOf h) (idsOf h') = true) : ∀ i, i ∈ idsOf h → mapN [] i = i ∧ i ∈ idsOf h' := fun i hi => ⟨rfl, subN_spec hs i hi⟩

/-- A loop by its invariant; of temporaries and blocks those are kept whose numbers are given, as they stand where the loop begins; dE, dH: those that turn. -/
theorem LoopJ.introK (hX : X.ok P) (hm : P.follows .mixedOrders = true) {md : Md} {n : Nat} {B : Nat → Prop} {I : Inls} {base base' : Nat} {c : Code} {e : Env} {h : Heap} {K : Ex → Env → Heap → Prop} (hc : codeOK n c = true)
    (T L : List Nat) {σ : Type} (dE : σ → Env) (dH : σ → Heap) (Inv : σ → Prop) (μ : σ → Nat) (s0 : σ) (h0 : Inv s0) (hw : Weak B [] e h (appE (dE s0) (pickE T e)) (appH (dH s0) (pickH L h)))
    (hround : ∀ s, Inv s → codeP X (jd P X md n B) I base' c (appE (dE s) (pickE T e)) (appH (dH s) (pickH L h)) (roundK B (fun s => appE (dE s) (pickE T e)) (fun s => appH (dH s) (pickH L h)) Inv μ s K)) (hmd : md.loops = true := by rfl) :
    LoopJ P X md n B base c e h K := LoopJ.intro hX hm hc (fun s => appE (dE s) (pickE T e)) (fun s => appH (dH s) (pickH L h)) Inv μ s0 [] h0 hw hround hmd

/-- Are marks kept, under their own numbers. -/
def mkB (h : Heap) (h' : Heap) : List Nat → Bool
  | [] => true
  | i :: l => match find h i with
    | some .mk => match find h' i with
      | some .mk => mkB h h' l
      | _ => false
    | _ => mkB h h' l

theorem mkB_spec {h h' : Heap} : ∀ {l : List Nat}, mkB h h' l = true → ∀ i ∈ l, find h i = some .mk → find h' i = some .mk
  | [], _, i, hi, _ => by simp at hi
  | j :: l, hb, i, hi, hm => by
    simp only [mkB] at hb
    rcases List.mem_cons.1 hi with rfl | hi
    · rw [hm] at hb
      simp only at hb
      split at hb
      · rename_i h1; exact h1
      · cases hb
    · split at hb
      · split at hb
        · exact mkB_spec hb i hi hm
        · cases hb
      · exact mkB_spec hb i hi hm

theorem Weak.simM {B : Nat → Prop} {e e' : Env} {h h' : Heap} (hw : Weak B [] e h e' h') (hk : mkB h h' (idsOf h) = true) {n : Nat} (hs : Sim W φ (find h) (get e) .marks n a w) :
    Sim W φ (find h') (get e') .marks n a w ∧ HExtB B φ (find h) φ (find h') := by
  obtain ⟨ids, k1, k2, k3⟩ := hs.defers
  have hs' : Sim W φ (find h) (get e) .plain n { a with defers := [] } w := ⟨hs.heap, hs.env, hs.size, rfl⟩
  obtain ⟨φ', g1, g2⟩ := hw.sim hs' rfl
  have hφ : ∀ i b, find h' i = some b → find h i = some (b.ren (mapN [])) := fun i b hb => (wkH_find hw.heap hb).1
  have named : ∀ i, i ∈ idsOf h' → Named (mapN []) φ (find h) φ (find h') i := fun i hi => by
    obtain ⟨b, hb⟩ := find_ids.1 hi
    exact ⟨rfl, b, hb, hφ i b hb⟩
  have hsim : HSim W φ (find h') w := by
    refine ⟨hs.heap.below, fun i b hb => ?_, fun i b b1 c hb hφ' => hs.heap.ge _ _ b1 c (hφ i b hb) hφ', fun i j x y b c c' hx hy dx dy hij hi hj => ?_⟩
    · obtain ⟨h1, h2⟩ := wkH_find hw.heap hb
      exact BlkOK.ren rfl (fun j hj => named j (h2 j hj)) (hs.heap.blk _ _ h1)
    · refine hs.heap.dis _ _ _ _ b c c' (hφ i x hx) (hφ j y hy) (fun e => dx ?_) (fun e => dy ?_) hij hi hj
      · cases x <;> first | rfl | cases e
      · cases y <;> first | rfl | cases e
  refine ⟨⟨hsim, fun t => ?_, hs.size, ⟨ids, k1, fun i hi => mkB_spec hk i (find_ids.2 ⟨_, k2 i hi⟩) (k2 i hi), k3⟩⟩, fun i x hB hx => ?_⟩
  · rcases wkE_get hw.env t with h1 | ⟨h1, h2⟩
    · rw [h1]; simp [Rel]
    · have := hs.env t
      rw [h1] at this
      exact Rel.ren _ _ (fun i hi => named i (h2 i hi)) this
  · obtain ⟨h1, h2⟩ := hw.keep i hB
    obtain ⟨b, hb⟩ := find_ids.1 h2
    have h3 := hφ i b hb
    rw [hx] at h3
    cases h3
    exact ⟨rfl, b, hb, ren_le b⟩

/-- Of temporaries and blocks those are kept whose numbers are given. -/
theorem RangeJ.clean (T L : List Nat) {n : Nat} {B : Nat → Prop} {base : Nat} {f : Operand} {ps : Array Tmp} {x y : Code} {e : Env} {h : Heap} {K : Ex → Env → Heap → Prop}
    (hw : Weak B [] e h (pickE T e) (pickH L h)) (hk : mkB h (pickH L h) (idsOf h) = true) (hr : RangeJ P X .marks n B base f ps x y (pickE T e) (pickH L h) K) : RangeJ P X .marks n B base f ps x y e h K := by
  refine ⟨fun W φ a' w hG hs => ?_⟩
  obtain ⟨g1, g2⟩ := hw.simM hk hs
  exact wpIn_mono (hr.out W φ a' w hG g1) fun x2 a2 w2 q => q.ext g2

end Go.Proofs.YtipmkjfbdflneaaDoor.AM
