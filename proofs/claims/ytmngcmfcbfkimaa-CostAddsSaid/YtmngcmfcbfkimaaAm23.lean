/- A row of operations, in the text's order. -/
import Derived.Test.YtmngcmfcbfkimaaAm22
namespace Go.Proofs.Ytmngcmfcbfkimaa.AM
open Go Go.RowKit

variable {P : Program} {X : Ctx} {W : World} {φ : Phi} {H L : HeapF} {w : World} {ρ : Nat → AV} {a : Act}

/-- A call that goes on in the caller's memory. -/
def InlJ (P : Program) (X : Ctx) (f : Nat) (as : List AV) (h : Heap) (K : AV → Heap → Prop) : Prop :=
  FnOK P f ∧ ∀ W φ w vs, GlobOK W X.G → HSim W φ (find h) w → RelL W φ (find h) as vs → Calls P f vs.toArray w fun e w' =>
    ∃ v φ' h' r, e = .returned v ∧ HSim W φ' (find h') w' ∧ HExt φ (find h) φ' (find h') ∧ Rel W φ' (find h') r v ∧ K r h'

structure Sim (W : World) (φ : Phi) (H : HeapF) (ρ : Nat → AV) (n : Nat) (a : Act) (w : World) : Prop where
  heap : HSim W φ H w
  env : EnvOK W φ H ρ a
  size : a.tmps.size = n
  defers : a.defers = []

def updE (d : Option Tmp) (v : AV) (ρ : Nat → AV) : Nat → AV :=
  match d with
  | some t => upd ρ t v
  | none => ρ

def dstOK (n : Nat) (o : Oper) : Bool :=
  match o.dst with
  | some t => Nat.blt t n
  | none => true

theorem get_cons (t : Nat) (v : AV) (e : Env) : get ((t, v) :: e) = upd (get e) t v := by
  funext i
  simp only [get, upd]
  cases hb : Nat.beq t i with
  | true => rw [if_pos (Nat.eq_of_beq_eq_true hb).symm]
  | false =>
    have : i ≠ t := fun e => by rw [e, Nat.beq_refl] at hb; cases hb
    rw [if_neg this]

theorem find_cons (t : Nat) (v : Blk) (h : Heap) : find ((t, v) :: h) = upd (find h) t (some v) := by
  funext i
  simp only [find, upd]
  cases hb : Nat.beq t i with
  | true => rw [if_pos (Nat.eq_of_beq_eq_true hb).symm]
  | false =>
    have : i ≠ t := fun e => by rw [e, Nat.beq_refl] at hb; cases hb
    rw [if_neg this]

theorem addK_find (d : Delta) (h : Heap) (k : Heap → Prop) (hk : addK d h k) : ∃ h', find h' = addF d (find h) ∧ k h' := by
  induction d generalizing h with
  | nil => exact ⟨h, rfl, hk⟩
  | cons e d ih =>
    obtain ⟨i, b⟩ := e
    simp only [addK, forceN_eq, forceK_eq] at hk
    obtain ⟨h', h1, h2⟩ := ih _ hk
    exact ⟨h', by rw [h1, find_cons]; rfl, h2⟩

theorem EnvOK.put {n : Nat} (he : EnvOK W φ H ρ a) (hn : a.tmps.size = n) {d : Option Tmp} (hd : ∀ t, d = some t → t < n) {v : AV} {v' : Value} (hv : Rel W φ H v v') : EnvOK W φ H (updE d v ρ) (a.put d v') := by
  cases d with
  | none => exact he
  | some t =>
    have ht := hd t rfl
    intro i
    simp only [updE, upd, Act.put]
    by_cases hi : i = t
    · subst hi
      rw [if_pos rfl]
      have : (a.tmps.setIfInBounds i v').getD i undef = v' := by
        simp [Array.getD, hn, ht]
      rw [this]
      exact hv
    · rw [if_neg hi]
      have : (a.tmps.setIfInBounds t v').getD i undef = a.tmps.getD i undef := by
        simp [Array.getElem?_setIfInBounds_ne (Ne.symm hi)]
      rw [this]
      exact he i

theorem size_put (d : Option Tmp) (v : Value) : (a.put d v).tmps.size = a.tmps.size := by cases d <;> simp [Act.put]
theorem defers_put (d : Option Tmp) (v : Value) : (a.put d v).defers = a.defers := by cases d <;> simp [Act.put]

theorem dstOK_lt {n : Nat} {o : Oper} (h : dstOK n o = true) : ∀ t, o.dst = some t → t < n := fun t ht => by
  unfold dstOK at h
  rw [ht] at h
  have h : Nat.ble (t + 1) n = true := h
  exact Nat.le_of_ble_eq_true h

theorem Sim.put {n : Nat} (h : Sim W φ H ρ n a w) {o : Oper} (hd : dstOK n o = true) {v : AV} {v' : Value} (hv : Rel W φ H v v') : Sim W φ H (updE o.dst v ρ) n (a.put o.dst v') w :=
  ⟨h.heap, h.env.put h.size (dstOK_lt hd) hv, (size_put _ _).trans h.size, (defers_put _ _).trans h.defers⟩

theorem rel_skip {v : Value} (h : Rel W φ H (.tup []) v) : v = undef := by
  simp only [Rel] at h
  obtain ⟨vs, h1, rfl⟩ := h
  cases vs with
  | nil => rfl
  | cons x vs => simp [RelL] at h1
theorem skip_rel : Rel W φ H (.tup []) undef := by
  simp only [Rel]
  exact ⟨[], trivial, rfl⟩
theorem guardV_ok {ops : Array Oper} (he : EnvOK W φ H ρ a) {o : Oper} {b : Bool} (h : guardV X.G ops.toList ρ o = some b) : Region.wanted o (yielded ops a.tmps) = b := by
  unfold guardV at h
  unfold Region.wanted
  split at h
  · rename_i hg
    cases h
    rw [hg]
  · rename_i j want hg
    rw [hg]
    simp only
    split at h
    · rename_i g hj
      split at h
      · rename_i t ht
        split at h
        · rename_i y hy
          have hv := he t
          rw [hy] at hv
          simp only [Rel, PV.val] at hv
          obtain ⟨_, hv⟩ := hv
          have hget : a.tmps[t]? = some (.bool y) := by
            rw [Array.getD_eq_getD_getElem?] at hv
            cases hq : a.tmps[t]? with
            | none => rw [hq] at hv; cases hv
            | some z => rw [hq] at hv; simpa using hv
          have hyield : yielded ops a.tmps j = some y := by
            unfold yielded
            have hj' : ops[j]? = some g := by simpa using hj
            simp [hj', ht, hget]
          rw [hyield]
          cases want <;> cases y <;> simp at h ⊢ <;> simp_all
        · rename_i hy
          cases h
          have hv := he t
          rw [hy] at hv
          obtain rfl_ := rel_skip hv
          have hyield : yielded ops a.tmps j = none := by
            unfold yielded
            have hj' : ops[j]? = some g := by simpa using hj
            cases hq : a.tmps[t]? with
            | none => simp [hj', ht, hq]
            | some z =>
              have : z = undef := by
                rw [Array.getD_eq_getD_getElem?, hq] at rfl_
                simpa using rfl_
              subst this
              simp [hj', ht, hq, undef]
          rw [hyield]
          cases want <;> rfl
        · cases h
      · cases h
    · cases h

/-- The call of a named Go function, as the model makes it. -/
theorem callee_ok (hG : GlobOK W X.G) (he : EnvOK W φ H ρ a) {o : Oper} {f : Nat} {as : List AV} (h : callee X ρ o = some (f, as)) (hf : FnOK P f) :
    ∃ vs, RelL W φ H as vs ∧ (execOp a.eval o).run P w = .ok (.enter f vs.toArray) w := by
  unfold callee at h
  split at h
  · rename_i f0 args ts hop
    split at h
    · rename_i g caps hev
      cases h
      have hfv := ev_ok hG he f0
      rw [hev] at hfv
      simp only [Rel] at hfv
      obtain ⟨cs, hfv, hcs⟩ := hfv
      refine ⟨args.toList.map a.eval ++ cs, (mapOp_ok hG he _).append hcs, ?_⟩
      obtain ⟨fn, c, h1, h2, h3⟩ := hf
      unfold execOp
      rw [hop]
      simp only [resolve, hfv, Deferred.ofValue, Sem.run_bind, Sem.run_pure, Result.andThen_ok, invoke, callFunc, run_program, h1, h3, h2, Option.isNone_some, Bool.false_eq_true, if_false]
      simp
    · cases h
  · cases h

theorem eval_const (v : Value) : a.eval (.const v) = v := rfl

theorem run_equal_slice_nil' (t e : TypeId) (ao : Option Addr) (l c : Nat) (h : P.underlying t = some (.slice e)) : (Op.equal t (.slice ao l c) (.slice none 0 0)).run P w = .ok ao.isNone w := by
  have key : ∀ d, (Op.equalIn (d + 1) t (.slice ao l c) (.slice none 0 0)).run P w = .ok ao.isNone w := fun d => by cases ao <;> simp [Op.equalIn, run_underlying h]
  exact key 9999

theorem nilCmp_ok (hX : X.ok P) (hG : GlobOK W X.G) (he : EnvOK W φ H ρ a) {o : Oper} {l : List PV} {b : Bool} (h : nilCmp X ρ o = some (l, b)) :
    ∃ y : Bool, (y = true → l = []) ∧ (execOp a.eval o).run P w = .ok (.value (.bool (y == b))) w := by
  unfold nilCmp at h
  split at h
  · rename_i op t x yt hop
    split at h
    · rename_i hsl
      obtain ⟨e, hte, _⟩ := isSlice_ok hX hsl
      split at h
      · rename_i s l' hev
        split at h
        · rename_i b' hb
          cases h
          have hxv := ev_ok hG he x
          rw [hev] at hxv
          simp only [Rel] at hxv
          obtain ⟨ao, c, hxv, _, _, _, h3⟩ := hxv
          refine ⟨ao.isNone, fun hn => ?_, ?_⟩
          · rcases h3 with h3 | ⟨ad, h3, _⟩
            · exact h3
            · rw [h3] at hn; cases hn
          · have hguard : ∀ ox oy m, (eqGuard op t ox oy (.slice ao m c) (.slice none 0 0)).run P w = .ok () w := fun ox oy m => run_eqGuard_plain rfl (by simp)
            unfold execOp
            rw [hop]
            simp only [eval_const, hxv, Sem.run_bind, hguard, Result.andThen_ok]
            unfold isEq at hb
            split at hb
            · cases hb
              simp [binOp, run_equal_slice_nil' t e ao _ c hte]
            · cases hb
              simp [binOp, run_equal_slice_nil' t e ao _ c hte]
            · cases hb
        · cases h
      · cases h
    · cases h
  · cases h

theorem updE_put (d : Option Tmp) (v : AV) (e : Env) : (match d with | some t => get ((t, v) :: e) | none => get e) = updE d v (get e) := by
  cases d with
  | none => rfl
  | some t => exact get_cons t v e

theorem opsP_ok (hX : X.ok P) (hG : GlobOK W X.G) {J : Jd} (hfn : ∀ f as r, J.fn f as r → Fn P X.G f as r) (hinl : ∀ f as h K, J.inl f as h K → InlJ P X f as h K) {I : Inls} {base n : Nat} {ops : Array Oper}
    {K : Env → Heap → Prop} {Q : Exit → Act → World → Prop} : ∀ (l : List Oper) (e : Env) (h : Heap) (φ : Phi) (a : Act) (w : World), (∀ o ∈ l, dstOK n o = true) →
      opsP X J I base ops.toList l e h K → Sim W φ (find h) (get e) n a w →
      (∀ φ' e' h' a' w', Sim W φ' (find h') (get e') n a' w' → HExt φ (find h) φ' (find h') → K e' h' → Q .normal a' w') → wpList P ops Q l a w
  | [], e, h, φ, a, w, _, hp, hs, hQ => hQ φ e h a w hs (HExt.refl _ _) hp
  | o :: r, e, h, φ, a, w, hd, hp, hs, hQ => by
    have hdo := hd o (by simp)
    have hdr : ∀ o ∈ r, dstOK n o = true := fun o' ho' => hd o' (by simp [ho'])
    -- what goes on behind the operation
    have next : ∀ (v : AV) (v' : Value) (h' : Heap) (φ' : Phi) (w' : World), HSim W φ' (find h') w' → HExt φ (find h) φ' (find h') → Rel W φ' (find h') v v' →
        (forceO o v fun v => match o.dst with
          | some t => opsP X J I base ops.toList r ((t, v) :: e) h' K
          | none => opsP X J I base ops.toList r e h' K) → wpList P ops Q r (a.put o.dst v') w' := by
      intro v v' h' φ' w' h1 h2 h3 h4
      have h4 := forceO_ok h4
      have hsim : Sim W φ' (find h') (updE o.dst v (get e)) n (a.put o.dst v') w' :=
        Sim.put (o := o) ⟨h1, hs.env.mono h2, hs.size, hs.defers⟩ hdo h3
      cases hdst : o.dst with
      | none =>
        rw [hdst] at h4 hsim
        exact opsP_ok hX hG hfn hinl r e h' φ' _ w' hdr h4 hsim (fun φ2 e2 h2' a2 w2 k1 k2 k3 => hQ φ2 e2 h2' a2 w2 k1 (h2.trans k2) k3)
      | some t =>
        rw [hdst] at h4 hsim
        simp only [updE] at hsim
        rw [← get_cons] at hsim
        exact opsP_ok hX hG hfn hinl r ((t, v) :: e) h' φ' _ w' hdr h4 hsim (fun φ2 e2 h2' a2 w2 k1 k2 k3 => hQ φ2 e2 h2' a2 w2 k1 (h2.trans k2) k3)
    rw [opsP_cons] at hp
    simp only [stepP] at hp
    refine wpList_step fun C hC => ?_
    cases hg : guardV X.G ops.toList (get e) o with
    | none => rw [hg] at hp; exact hp.elim
    | some g =>
      rw [hg] at hp
      rw [guardV_ok hs.env hg]
      cases g with
      | false =>
        simp only [Bool.false_eq_true, if_false]
        exact hC _ _ (next (.tup []) undef h φ w hs.heap (HExt.refl _ _) skip_rel (by unfold forceO; split <;> exact hp))
      | true =>
        simp only [if_true]
        simp only at hp
        cases hcal : callee X (get e) o with
        | some fa =>
          obtain ⟨f, as⟩ := fa
          rw [hcal] at hp
          simp only [callP] at hp
          cases hm : memN f I with
          | true =>
            rw [hm] at hp
            simp only at hp
            obtain ⟨hok, hcall⟩ := hinl _ _ _ _ hp
            obtain ⟨vs, hvs, hrun⟩ := callee_ok (w := w) hG hs.env hcal hok
            unfold Oper.wp
            rw [hrun, Oper.upon_enter]
            refine (hcall W φ w vs hG hs.heap hvs).mono ?_
            rintro en w' ⟨v', φ', h', r', rfl, k1, k2, k3, k4⟩
            exact hC _ _ (next r' v' h' φ' w' k1 k2 k3 k4)
          | false =>
            rw [hm] at hp
            simp only at hp
            cases hsh : shutAll (find h) as with
            | none => rw [hsh] at hp; exact hp.elim
            | some bs =>
              rw [hsh] at hp
              simp only at hp
              obtain ⟨rv, hfnr, hp⟩ := hp
              obtain ⟨hok, hcall⟩ := hfn _ _ _ hfnr
              obtain ⟨vs, hvs, hrun⟩ := callee_ok (w := w) hG hs.env hcal hok
              have hshut := shutAll_ok hs.heap (fun _ _ h => h) hvs hsh noPhi noHeap
              have hGw : GlobOK w X.G := fun g x hgx => ⟨(hG g x hgx).1, (hG g x hgx).2.later hs.heap.below⟩
              unfold Oper.wp
              rw [hrun, Oper.upon_enter]
              refine (hcall w vs hGw hshut).mono ?_
              rintro en w' ⟨v', φ1, H1, x, rfl, k1, k2, k3⟩
              cases had : adopt (find h) (freshId base h) ((o.dst.getD 0) * 8) rv with
              | none => rw [had] at hp; exact hp.elim
              | some vd =>
                obtain ⟨v, d⟩ := vd
                rw [had] at hp
                simp only at hp
                obtain ⟨h', hh', hp⟩ := addK_find _ _ _ hp
                obtain ⟨φ2, q1, q2, q3⟩ := adopt_ok hs.heap k1 (fun _ h => h) k2 k3 had
                rw [← hh'] at q1 q2 q3
                exact hC _ _ (next v v' h' φ2 w' q1 q2 q3 hp)
        | none =>
          rw [hcal] at hp
          simp only at hp
          cases hnil : nilCmp X (get e) o with
          | some lb =>
            obtain ⟨l, b⟩ := lb
            rw [hnil] at hp
            simp only at hp
            obtain ⟨y, hy, hrun⟩ := nilCmp_ok (P := P) (w := w) hX hG hs.env hnil
            unfold Oper.wp
            rw [hrun, Oper.upon_value]
            exact hC _ _ (next (.p (.b (y == b))) (.bool (y == b)) h φ w hs.heap (HExt.refl _ _) (Rel.plain (x := .b (y == b)) trivial) (hp y hy))
          | none =>
            rw [hnil] at hp
            simp only at hp
            cases hop : opV X (get e) (find h) (freshId base h) o with
            | none => rw [hop] at hp; exact hp.elim
            | some vd =>
              obtain ⟨v, d⟩ := vd
              rw [hop] at hp
              simp only at hp
              obtain ⟨h', hh', hp⟩ := addK_find _ _ _ hp
              obtain ⟨w', φ', v', hrun, q1, q2, q3⟩ := opV_ok (P := P) (w := w) hX hG hs.heap (fun _ _ h => h) hs.env (fun h => h) hop
              rw [← hh'] at q1 q2 q3
              unfold Oper.wp
              rcases hrun with hrun | ⟨hrun, rfl⟩
              · rw [hrun, Oper.upon_value]
                exact hC _ _ (next v v' h' φ' w' q1 q2 q3 hp)
              · rw [hrun, Oper.upon_skip]
                exact hC _ _ (next v undef h' φ' w' q1 q2 q3 hp)

end Go.Proofs.Ytmngcmfcbfkimaa.AM
