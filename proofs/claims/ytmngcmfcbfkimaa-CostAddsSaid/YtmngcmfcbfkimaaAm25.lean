/- A row of operations whose order is open: the walk in the text's order serves every order, as none looks at what another turns. -/
import Derived.Test.YtmngcmfcbfkimaaAm24
namespace Go.Proofs.Ytmngcmfcbfkimaa.AM
open Go Go.RowKit

variable {P : Program} {X : Ctx} {W : World} {φ : Phi} {H L : HeapF} {w : World} {ρ : Nat → AV} {a : Act}

abbrev Ft := List Nat × List Nat

/-- Two operations' footprints lie apart. -/
def Apart (f g : Ft) : Prop := (∀ i ∈ f.2, i ∉ g.1) ∧ (∀ i ∈ f.2, i ∉ g.2) ∧ (∀ i ∈ g.2, i ∉ f.1)

theorem disjN_spec {l m : List Nat} (h : disjN l m = true) : ∀ i ∈ l, i ∉ m := by
  induction l with
  | nil => simp
  | cons n l ih =>
    simp only [disjN] at h
    split at h
    · cases h
    · rename_i hn
      intro i hi
      rcases List.mem_cons.1 hi with rfl | hi
      · intro hm
        rw [memN_iff.2 hm] at hn
        cases hn
      · exact ih h i hi

theorem waitsL_false {k : Nat} {l : List Edge} : waitsL k l = false ↔ ∀ e ∈ l, Region.binds .any e = true → e.on ≠ k := by
  induction l with
  | nil => simp [waitsL]
  | cons e l ih =>
    simp only [waitsL, List.mem_cons, forall_eq_or_imp]
    cases hb : Region.binds .any e with
    | false => simp only [ih]; simp
    | true =>
      simp only
      cases hk : Nat.beq e.on k with
      | true =>
        have := Nat.eq_of_beq_eq_true hk
        simp [this]
      | false =>
        have : e.on ≠ k := fun h => by rw [h, Nat.beq_refl] at hk; cases hk
        simp only [ih]
        simp [this]

theorem reachB_waits {all : List Oper} {k n : Nat} {o : Oper} (h : waitsL k o.after.toList = true) : reachB all k n o = true := by
  cases n with
  | zero => exact h
  | succ n => unfold reachB; rw [h]

def FO (all : List Oper) (o : Oper) (f : Ft) (done : List Foot) : Prop := ∀ k lk wr, (k, lk, wr) ∈ done → reachB all k 3 o = false → Apart (lk, wr) f

theorem footOK_spec {all : List Oper} {o : Oper} {lk wr : List Nat} {done : List Foot} (h : footOK all o lk wr done = true) : FO all o (lk, wr) done := by
  induction done with
  | nil => intro k l m hm; cases hm
  | cons e done ih =>
    obtain ⟨k, lk', wr'⟩ := e
    simp only [footOK] at h
    intro k1 l1 w1 hm hw
    split at h
    · rename_i hk
      rcases List.mem_cons.1 hm with he | hm
      · cases he; rw [reachB_waits hk] at hw; cases hw
      · exact ih h k1 l1 w1 hm hw
    · split at h
      · rename_i hd
        rcases List.mem_cons.1 hm with he | hm
        · cases he
          simp only [Bool.and_eq_true] at hd
          exact ⟨disjN_spec hd.1.1, disjN_spec hd.1.2, disjN_spec hd.2⟩
        · exact ih h k1 l1 w1 hm hw
      · split at h
        · rename_i hd
          rcases List.mem_cons.1 hm with he | hm
          · cases he; rw [hd] at hw; cases hw
          · exact ih h k1 l1 w1 hm hw
        · cases h

def Good (all : List Oper) : Nat → List Foot → List Oper → List Ft → Prop
  | _, _, [], [] => True
  | k, done, o :: r, f :: fs => FO all o f done ∧ Good all (k + 1) ((k, f.1, f.2) :: done) r fs
  | _, _, _, _ => False

theorem Good.late {all : List Oper} : ∀ {l : List Oper} {fs : List Ft} {k : Nat} {done : List Foot}, Good all k done l fs → ∀ (k1 : Nat) (lk wr : List Nat), (k1, lk, wr) ∈ done → ∀ (q : Nat) (o : Oper) (f : Ft), l[q]? = some o → fs[q]? = some f →
    reachB all k1 3 o = false → Apart (lk, wr) f
  | [], _, _, _, _, _, _, _, _, q, o, f, ho, _, _ => by simp at ho
  | o :: r, [], k, done, h, _, _, _, _, _, _, _, _, _, _ => by simp [Good] at h
  | o :: r, g :: fs, k, done, h, k1, lk, wr, hm, q, o', f, ho, hf, hw => by
    simp only [Good] at h
    cases q with
    | zero =>
      simp only [List.getElem?_cons_zero, Option.some.injEq] at ho hf
      subst ho; subst hf
      exact h.1 k1 lk wr hm hw
    | succ q => exact Good.late h.2 k1 lk wr (by simp [hm]) q o' f (by simpa using ho) (by simpa using hf) hw

theorem Good.pair {all : List Oper} : ∀ {l : List Oper} {fs : List Ft} {k : Nat} {done : List Foot}, Good all k done l fs → ∀ (p q : Nat) (o : Oper) (f g : Ft), p < q → l[q]? = some o → fs[p]? = some f → fs[q]? = some g →
    reachB all (k + p) 3 o = false → Apart f g
  | [], _, _, _, _, _, _, _, _, _, _, ho, _, _, _ => by simp at ho
  | o :: r, [], k, done, h, _, _, _, _, _, _, _, _, _, _ => by simp [Good] at h
  | o :: r, g0 :: fs, k, done, h, p, q, o', f, g, hpq, ho, hf, hg, hw => by
    simp only [Good] at h
    cases q with
    | zero => omega
    | succ q =>
      simp only [List.getElem?_cons_succ] at ho hg
      cases p with
      | zero =>
        simp only [List.getElem?_cons_zero, Option.some.injEq] at hf
        subst hf
        exact Good.late h.2 k g0.1 g0.2 (by simp) q o' g ho hg hw
      | succ p =>
        simp only [List.getElem?_cons_succ] at hf
        exact Good.pair h.2 p q o' f g (by omega) ho hf hg (by rw [show k + 1 + p = k + (p + 1) by omega]; exact hw)

section
variable (X : Ctx) (J : Jd) (base : Nat) (ops : Array Oper) (Q : (Nat → AV) → HeapF → Prop)

def lexA : List Oper → List Ft → (Nat → AV) → HeapF → Prop
  | [], [], ρ, H => Q ρ H
  | o :: r, f :: fs, ρ, H => ∃ v d, YA X J base ops o ρ H v d f.1 f.2 ∧ lexA r fs (updE o.dst v ρ) (addF d H)
  | _, _, _, _ => False

def yOp (ft : Nat → Ft) (i : Nat) (K : (Nat → AV) → HeapF → Prop) (ρ : Nat → AV) (H : HeapF) : Prop :=
  match ops[i]? with
  | none => K ρ H
  | some o => ∃ v d, YA X J base ops o ρ H v d (ft i).1 (ft i).2 ∧ K (updE o.dst v ρ) (addF d H)

def anyA (ft : Nat → Ft) : Nat → Array Bool → (Nat → AV) → HeapF → Prop
  | 0, listed, ρ, H => Region.ready .any ops listed = [] ∧ Q ρ H
  | fuel + 1, listed, ρ, H => (Region.ready .any ops listed = [] → Q ρ H) ∧
    ∀ i ∈ Region.ready .any ops listed, yOp X J base ops ft i (anyA ft fuel (listed.setIfInBounds i true)) ρ H
end

theorem yOp_mono {J : Jd} {base : Nat} {ops : Array Oper} {ft : Nat → Ft} {i : Nat} {K K' : (Nat → AV) → HeapF → Prop} (h : ∀ ρ H, K ρ H → K' ρ H) (hh : yOp X J base ops ft i K ρ H) : yOp X J base ops ft i K' ρ H := by
  unfold yOp at *
  split
  · rename_i ho; rw [ho] at hh; exact h _ _ hh
  · rename_i o ho
    rw [ho] at hh
    obtain ⟨v, d, h1, h2⟩ := hh
    exact ⟨v, d, h1, h _ _ h2⟩

theorem YA.ids {J : Jd} {base : Nat} {ops : Array Oper} {o : Oper} {v : AV} {d : Delta} {lk wr : List Nat} (h : YA X J base ops o ρ H v d lk wr) : ∀ i ∈ dIds d, i ∈ wr := by
  rcases h with ⟨_, _, rfl⟩ | ⟨_, _, h, _⟩
  · simp [dIds]
  · exact h

theorem updE_comm {x y : Option Tmp} {v u : AV} (h : ∀ d, x = some d → y ≠ some d) : updE x v (updE y u ρ) = updE y u (updE x v ρ) := by
  cases x with
  | none => rfl
  | some d =>
    cases y with
    | none => rfl
    | some e =>
      have hne : d ≠ e := fun he => h d rfl (he ▸ rfl)
      funext i
      simp only [updE, upd]
      by_cases h1 : i = d
      · by_cases h2 : i = e
        · exact absurd (h1.symm.trans h2) hne
        · simp [h1, hne]
      · by_cases h2 : i = e <;> simp [h1, h2, Ne.symm hne]

theorem addF_comm {d e : Delta} (h : ∀ i ∈ dIds d, i ∉ dIds e) : addF d (addF e H) = addF e (addF d H) := by
  funext i
  by_cases h1 : i ∈ dIds d
  · have h2 := h i h1
    rw [addF_ne (d := e) h2]
    exact addF_congr (addF_ne h2)
  · rw [addF_ne (d := d) h1]
    exact addF_congr (addF_ne h1).symm

theorem yOp_put {J : Jd} {base : Nat} {ops : Array Oper} {ft : Nat → Ft} {i j : Nat} {oi oj : Oper} {v : AV} {d : Delta} (hj : ops[j]? = some oj) (hap : oi.apart ops oj = true) (hft : Apart (ft i) (ft j))
    {K : (Nat → AV) → HeapF → Prop} (hy : YA X J base ops oi ρ H v d (ft i).1 (ft i).2) (h : yOp X J base ops ft j K (updE oi.dst v ρ) (addF d H)) :
    yOp X J base ops ft j (fun ρ' H' => YA X J base ops oi ρ' H' v d (ft i).1 (ft i).2 ∧ K (updE oi.dst v ρ') (addF d H')) ρ H := by
  obtain ⟨h1, h2, h3⟩ := Oper.apart_spec hap
  unfold yOp at *
  rw [hj] at *
  obtain ⟨u, e, hu, hK⟩ := h
  have hd := hy.ids
  have hu' : YA X J base ops oj ρ H u e (ft j).1 (ft j).2 := hu.congr (fun x hx => ev_apart h1 x hx) (guard_apart h1).symm
    (fun k hk => addF_ne fun hm => hft.1 k (hd k hm) hk) (fun k hk => addF_ne fun hm => hft.2.1 k (hd k hm) hk)
  have he := hu.ids
  refine ⟨u, e, hu', hy.congr (fun x hx => (ev_apart h3 x hx).symm) (guard_apart h3) (fun k hk => (addF_ne fun hm => hft.2.2 k (he k hm) hk).symm)
    (fun k hk => (addF_ne fun hm => hft.2.1 k hk (he k hm)).symm), ?_⟩
  rw [updE_comm h2, addF_comm fun k hk hm => hft.2.1 k (hd k hk) (he k hm)]
  exact hK

def Closed (ops : Array Oper) (listed : Array Bool) : Prop :=
  ∀ (j : Nat) (o : Oper), ops[j]? = some o → listed.getD j false = true → ∀ e ∈ o.after, Region.binds .any e = true → listed.getD e.on false = true
theorem reach_listed {ops : Array Oper} {listed : Array Bool} (hc : Closed ops listed) {k : Nat} : ∀ (n : Nat) (o : Oper), (∀ e ∈ o.after, Region.binds .any e = true → listed.getD e.on false = true) →
    reachB ops.toList k n o = true → listed.getD k false = true := by
  have hw : ∀ o : Oper, (∀ e ∈ o.after, Region.binds .any e = true → listed.getD e.on false = true) → waitsL k o.after.toList = true → listed.getD k false = true := by
    intro o ho h
    apply Classical.byContradiction
    intro hn
    have : waitsL k o.after.toList = false := waitsL_false.2 fun e he hb heq => hn (heq ▸ ho e (by simpa using he) hb)
    rw [this] at h
    cases h
  intro n
  induction n with
  | zero => intro o ho h; exact hw o ho h
  | succ n ih =>
    intro o ho h
    unfold reachB at h
    split at h
    · rename_i h1; exact hw o ho h1
    · obtain ⟨e, he, h⟩ := List.any_eq_true.1 h
      split at h
      · rename_i hb
        split at h
        · rename_i o' ho'
          have he' : e ∈ o.after := by simpa using he
          exact ih o' (hc e.on o' (by simpa using ho') (ho e he' hb)) h
        · cases h
      · cases h
theorem getD_rep {n j : Nat} : (Array.replicate n false).getD j false = false := by
  rcases Nat.lt_or_ge j n with h | h
  · simp [h]
  · rw [Array.getD_eq_getD_getElem?, Array.getElem?_eq_none (by simpa using h)]
    rfl
theorem getD_ft {l : Array Bool} {i : Nat} (h : l.getD i true = false) : l.getD i false = false := by
  rcases Nat.lt_or_ge i l.size with h' | h'
  · simpa [h'] using h
  · simp [Array.getElem?_eq_none h']
theorem Closed.put {ops : Array Oper} {listed : Array Bool} (hc : Closed ops listed) {i : Nat} (hi : i ∈ Region.ready .any ops listed) : Closed ops (listed.setIfInBounds i true) := by
  obtain ⟨_, oi, hoi, hall⟩ := mem_ready.1 hi
  have hmono : ∀ k, listed.getD k false = true → (listed.setIfInBounds i true).getD k false = true := by
    intro k hk
    by_cases hik : i = k
    · subst hik
      rcases Nat.lt_or_ge i listed.size with h' | h'
      · simp [h']
      · simp [Array.getElem?_eq_none h'] at hk
    · rw [getD_set_ne false hik]; exact hk
  intro j o ho hj e he hb
  apply hmono
  by_cases hij : i = j
  · subst hij
    rw [hoi] at ho
    cases ho
    exact hall e he hb
  · rw [getD_set_ne false hij] at hj
    exact hc j o ho hj e he hb
theorem anyA_first {J : Jd} {base : Nat} {ops : Array Oper} {ft : Nat → Ft} {Q : (Nat → AV) → HeapF → Prop} {i : Nat} {oi : Oper} {v : AV} {d : Delta} (hi : ops[i]? = some oi) :
    ∀ (fuel : Nat) (listed : Array Bool) (ρ : Nat → AV) (H : HeapF),
      (∀ j oj, ops[j]? = some oj → j ≠ i → listed.getD j true = false → (∀ e ∈ oj.after, Region.binds .any e = true → e.on ≠ i) → oi.apart ops oj = true ∧ (reachB ops.toList i 3 oj = false → Apart (ft i) (ft j))) →
      Closed ops listed → i ∈ Region.ready .any ops listed → YA X J base ops oi ρ H v d (ft i).1 (ft i).2 →
      anyA X J base ops Q ft fuel (listed.setIfInBounds i true) (updE oi.dst v ρ) (addF d H) → anyA X J base ops Q ft (fuel + 1) listed ρ H := by
  have here : ∀ (K : (Nat → AV) → HeapF → Prop) (ρ : Nat → AV) (H : HeapF), YA X J base ops oi ρ H v d (ft i).1 (ft i).2 → K (updE oi.dst v ρ) (addF d H) → yOp X J base ops ft i K ρ H := by
    intro K ρ H hy hK
    unfold yOp
    rw [hi]
    exact ⟨v, d, hy, hK⟩
  intro fuel
  induction fuel with
  | zero =>
    intro listed ρ H _ _ hr hy HH
    refine ⟨fun h => (by rw [h] at hr; cases hr), fun j hj => ?_⟩
    by_cases hji : j = i
    · subst hji; exact here _ _ _ hy HH
    · have := ready_mono hj hji
      rw [HH.1] at this
      cases this
  | succ fuel ih =>
    intro listed ρ H hfree hcl hr hy HH
    refine ⟨fun h => (by rw [h] at hr; cases hr), fun j hj => ?_⟩
    by_cases hji : j = i
    · subst hji; exact here _ _ _ hy HH
    · have h1 := HH.2 j (ready_mono hj hji)
      obtain ⟨hjun, oj, hoj, hall⟩ := mem_ready.1 hj
      have hnot : ∀ e ∈ oj.after, Region.binds .any e = true → e.on ≠ i := fun e he hb heq => by
        have h1 := hall e he hb
        have h0 := (mem_ready.1 hr).1
        rw [heq] at h1
        rcases Nat.lt_or_ge i listed.size with h' | h'
        · simp [h'] at h0 h1; rw [h0] at h1; cases h1
        · simp [Array.getElem?_eq_none h'] at h1
      obtain ⟨g1, g2⟩ := hfree j oj hoj hji hjun hnot
      have g2 := g2 (by
        cases hrb : reachB ops.toList i 3 oj with
        | false => rfl
        | true =>
          have h1 := reach_listed hcl 3 oj hall hrb
          have h0 := getD_ft (mem_ready.1 hr).1
          rw [h1] at h0
          cases h0)
      have h2 := yOp_put hoj g1 g2 hy h1
      have hfree' : ∀ k ok, ops[k]? = some ok → k ≠ i → (listed.setIfInBounds j true).getD k true = false →
          (∀ e ∈ ok.after, Region.binds .any e = true → e.on ≠ i) → oi.apart ops ok = true ∧ (reachB ops.toList i 3 ok = false → Apart (ft i) (ft k)) := fun k ok hk hki hun hno => by
        refine hfree k ok hk hki ?_ hno
        by_cases hjk : j = k
        · subst hjk; exact hjun
        · rw [getD_set_ne true hjk] at hun; exact hun
      refine yOp_mono (fun ρ' H' h3 => ih (listed.setIfInBounds j true) ρ' H' hfree' (hcl.put hj) (ready_mono hr (Ne.symm hji)) h3.1 ?_) h2
      rw [Array.setIfInBounds_comm _ _ hji]
      exact h3.2

theorem anyA_lex {J : Jd} {base : Nat} {ops : Array Oper} {fs : List Ft} {Q : (Nat → AV) → HeapF → Prop} (hgood : Good ops.toList 0 [] ops.toList fs) : ∀ (l : List Oper) (fl : List Ft) (k : Nat) (listed : Array Bool) (ρ : Nat → AV) (H : HeapF),
    (∀ j, l[j]? = ops[k + j]?) → (∀ j, fl[j]? = fs[k + j]?) → (∀ j, j < k → listed.getD j true = true) → Closed ops listed →
    Region.lexFrom .any ops l.length k listed = true → lexA X J base ops Q l fl ρ H → anyA X J base ops Q (fun i => fs.getD i ([], [])) l.length listed ρ H
  | [], [], _, _, _, _, _, _, _, _, hB, h => ⟨by simpa [Region.lexFrom] using hB, h⟩
  | [], f :: fl, _, _, _, _, _, _, _, _, _, h => by simp [lexA] at h
  | o :: l, [], _, _, _, _, _, _, _, _, _, h => by simp [lexA] at h
  | o :: l, f :: fl, k, listed, ρ, H, hl, hf, hlt, hcl, hB, h => by
    have h0 : ops[k]? = some o := by simpa using (hl 0).symm
    have hf0 : fs[k]? = some f := by simpa using (hf 0).symm
    simp only [List.length_cons, Region.lexFrom, Bool.and_eq_true] at hB
    obtain ⟨⟨hr, hfr⟩, hB'⟩ := hB
    simp only [lexA] at h
    obtain ⟨v, d, hy, hK⟩ := h
    have hfk : fs.getD k ([], []) = f := by simp [hf0]
    refine anyA_first (v := v) (d := d) h0 l.length listed ρ H (fun j oj hoj hji hun hno => ⟨Region.free_spec h0 hfr j oj hoj hji hun hno, fun hrb => ?_⟩) hcl (by simpa using hr) (by rw [hfk]; exact hy)
      (anyA_lex hgood l fl (k + 1) _ _ _ (fun j => by have := hl (j + 1); simpa [Nat.add_assoc, Nat.add_comm 1 j] using this) (fun j => by have := hf (j + 1); simpa [Nat.add_assoc, Nat.add_comm 1 j] using this)
        (fun j hj => ?_) (hcl.put (by simpa using hr)) hB' hK)
    · have hkj : k < j := by
        rcases Nat.lt_or_ge j k with h | h
        · rw [hlt j h] at hun; cases hun
        · omega
      simp only [hfk]
      cases hfj : fs[j]? with
      | none => simp [Apart, hfj]
      | some g =>
        have : fs.getD j ([], []) = g := by simp [hfj]
        rw [this]
        exact hgood.pair k j oj f g hkj (by simpa using hoj) hf0 hfj (by rw [Nat.zero_add]; exact hrb)
    · by_cases hjk : j = k
      · subst hjk
        simp only [Array.getD_eq_getD_getElem?, Array.getElem?_setIfInBounds]
        by_cases hs : j < listed.size
        · simp [hs]
        · simp [hs]
      · rw [getD_set_ne true (Ne.symm hjk)]
        exact hlt j (by omega)

theorem opsD_lex {J : Jd} {base : Nat} {ops : Array Oper} {K : Env → Heap → Prop} : ∀ (l : List Oper) (k : Nat) (done : List Foot) (e : Env) (h : Heap), opsD X J base ops.toList k done l e h K →
    ∃ fs, Good ops.toList k done l fs ∧ lexA X J base ops (fun ρ H => ∃ e' h', get e' = ρ ∧ find h' = H ∧ K e' h') l fs (get e) (find h)
  | [], k, done, e, h, hp => ⟨[], by simp [Good], e, h, rfl, rfl, hp⟩
  | o :: r, k, done, e, h, hp => by
    rw [opsD_cons] at hp
    simp only [stepD] at hp
    have step : ∀ (v : AV) (d : Delta) (lk wr : List Nat) (h' : Heap), FO ops.toList o (lk, wr) done → YA X J base ops o (get e) (find h) v d lk wr → find h' = addF d (find h) →
        (forceO o v fun v => match o.dst with
          | some t => opsD X J base ops.toList (k + 1) ((k, lk, wr) :: done) r ((t, v) :: e) h' K
          | none => opsD X J base ops.toList (k + 1) ((k, lk, wr) :: done) r e h' K) →
        ∃ fs, Good ops.toList k done (o :: r) fs ∧ lexA X J base ops (fun ρ H => ∃ e' h', get e' = ρ ∧ find h' = H ∧ K e' h') (o :: r) fs (get e) (find h) := by
      intro v d lk wr h' hfo hy hh hp
      have hp := forceO_ok hp
      cases hdst : o.dst with
      | none =>
        rw [hdst] at hp
        obtain ⟨fs, g1, g2⟩ := opsD_lex r _ _ e h' hp
        refine ⟨(lk, wr) :: fs, ⟨hfo, g1⟩, v, d, hy, ?_⟩
        rw [hdst, ← hh]
        exact g2
      | some t =>
        rw [hdst] at hp
        obtain ⟨fs, g1, g2⟩ := opsD_lex r _ _ ((t, v) :: e) h' hp
        refine ⟨(lk, wr) :: fs, ⟨hfo, g1⟩, v, d, hy, ?_⟩
        rw [hdst, ← hh, updE, ← get_cons]
        exact g2
    cases hg : guardV X.G ops.toList (get e) o with
    | none => rw [hg] at hp; exact hp.elim
    | some g =>
      rw [hg] at hp
      cases g with
      | false => exact step (.tup []) [] [] [] h (fun _ _ _ _ _ => ⟨by simp, by simp, by simp⟩) (.inl ⟨hg, rfl, rfl⟩) rfl (by unfold forceO; split <;> exact hp)
      | true =>
        simp only at hp
        cases hcal : callee X (get e) o with
        | some fa =>
          obtain ⟨f, as⟩ := fa
          rw [hcal] at hp
          simp only at hp
          cases hsh : shutAll (restrict (find h) (looks X (get e) (fun s => base + s) o)) as with
          | none => rw [hsh] at hp; exact hp.elim
          | some bs =>
            rw [hsh] at hp
            obtain ⟨rv, k1, hp⟩ := hp
            cases had : adopt (find h) (fun s => base + s) ((o.dst.getD 0) * 8) rv with
            | none => rw [had] at hp; exact hp.elim
            | some vd =>
              obtain ⟨v, d⟩ := vd
              rw [had] at hp
              simp only at hp
              cases hfo : footOK ops.toList o (looks X (get e) (fun s => base + s) o) (dIds d) done with
              | false => rw [hfo] at hp; exact hp.elim
              | true =>
                rw [hfo] at hp
                obtain ⟨h', hh', hp⟩ := addK_find _ _ _ hp
                exact step v d _ _ h' (footOK_spec hfo) (.inr ⟨hg, fun _ hi => hi, fun _ hi => hi, .inr ⟨f, as, bs, rv, hcal, hsh, k1, had⟩⟩) hh' hp
        | none =>
          rw [hcal] at hp
          simp only at hp
          cases hop : opV X (get e) (restrict (find h) (looks X (get e) (fun s => base + s) o)) (fun s => base + s) o with
          | none => rw [hop] at hp; exact hp.elim
          | some vd =>
            obtain ⟨v, d⟩ := vd
            rw [hop] at hp
            simp only at hp
            cases hfo : footOK ops.toList o (looks X (get e) (fun s => base + s) o) (dIds d) done with
            | false => rw [hfo] at hp; exact hp.elim
            | true =>
              rw [hfo] at hp
              obtain ⟨h', hh', hp⟩ := addK_find _ _ _ hp
              exact step v d _ _ h' (footOK_spec hfo) (.inr ⟨hg, fun _ hi => hi, fun _ hi => hi, .inl ⟨hcal, hop⟩⟩) hh' hp

theorem anyA_wp (hX : X.ok P) (hG : GlobOK W X.G) {J : Jd} (hfn : ∀ f as r, J.fn f as r → Fn P X.G f as r) {base n : Nat} {ops : Array Oper} {ft : Nat → Ft} (hd : ∀ o ∈ ops, dstOK n o = true)
    {K : (Nat → AV) → HeapF → Prop} {Q : Exit → Act → World → Prop} : ∀ (fuel : Nat) (listed : Array Bool) (φ : Phi) (H : HeapF) (ρ : Nat → AV) (a : Act) (w : World),
      anyA X J base ops K ft fuel listed ρ H → Sim W φ H ρ n a w →
      (∀ φ' ρ' H' a' w', Sim W φ' H' ρ' n a' w' → HExt φ H φ' H' → K ρ' H' → Q .normal a' w') → wpAny P .any ops Q fuel listed a w
  | 0, listed, φ, H, ρ, a, w, h, hs, hQ => ⟨h.1, hQ φ ρ H a w hs (HExt.refl _ _) h.2⟩
  | fuel + 1, listed, φ, H, ρ, a, w, h, hs, hQ => by
    refine ⟨fun h0 => hQ φ ρ H a w hs (HExt.refl _ _) (h.1 h0), fun i hi => ?_⟩
    have h1 := h.2 i hi
    unfold yOp at h1
    unfold wpOp
    cases hoi : ops[i]? with
    | none =>
      rw [hoi] at h1
      exact anyA_wp hX hG hfn hd fuel _ φ H ρ a w h1 hs hQ
    | some o =>
      rw [hoi] at h1
      simp only at h1 ⊢
      obtain ⟨v, d, hy, hK⟩ := h1
      have := YA.wp hX hG hfn hy hs (hd o (Array.mem_of_getElem? hoi)) (Q := Q) (C := wpAny P .any ops Q fuel (listed.setIfInBounds i true))
        (fun φ' a' w' g1 g2 => anyA_wp hX hG hfn hd fuel _ φ' _ _ a' w' hK g1 (fun φ2 ρ2 H2 a2 w2 q1 q2 q3 => hQ φ2 ρ2 H2 a2 w2 q1 (g2.trans q2) q3))
      split
      · rename_i hw
        rw [if_pos hw] at this
        exact .inl this
      · rename_i hw
        rw [if_neg hw] at this
        exact this

theorem Sim.drew {n : Nat} (h : Sim W φ H ρ n a w) : Sim W φ H ρ n a w.drew := ⟨h.heap.drew, h.env, h.size, h.defers⟩

theorem opsD_ok (hX : X.ok P) (hG : GlobOK W X.G) (hm : P.follows .mixedOrders = true) {J : Jd} (hfn : ∀ f as r, J.fn f as r → Fn P X.G f as r) {base n id : Nat} {ops : Array Oper} (hB : Region.lexB .any ops = true)
    (hd : ∀ o ∈ ops, dstOK n o = true) {K : Env → Heap → Prop} {Q : Exit → Act → World → Prop} {e : Env} {h : Heap} {φ : Phi} {a : Act} {w : World}
    (hp : opsD X J base ops.toList 0 [] ops.toList e h K) (hs : Sim W φ (find h) (get e) n a w)
    (hQ : ∀ φ' e' h' a' w', Sim W φ' (find h') (get e') n a' w' → HExt φ (find h) φ' (find h') → K e' h' → Q .normal a' w') : (Code.region id ops true).wp P Q a w := by
  obtain ⟨fs, hgood, hlex⟩ := opsD_lex _ _ _ _ _ hp
  simp only [Region.lexB, Bool.and_eq_true] at hB
  have hany := anyA_lex hgood ops.toList fs 0 (Array.replicate ops.size false) _ _ (by simp) (by simp) (fun j hj => by omega) (fun j o _ hj => by rw [getD_rep] at hj; cases hj) (by simpa using hB.2) hlex
  refine wp_region_any hm ?_
  have := anyA_wp hX hG hfn hd (Q := Q) ops.toList.length _ φ _ _ a w.drew hany hs.drew (fun φ' ρ' H' a' w' q1 q2 q3 => by
    obtain ⟨e', h', rfl, rfl, hk⟩ := q3
    exact hQ φ' e' h' a' w' q1 q2 hk)
  rwa [Array.length_toList] at this

end Go.Proofs.Ytmngcmfcbfkimaa.AM
