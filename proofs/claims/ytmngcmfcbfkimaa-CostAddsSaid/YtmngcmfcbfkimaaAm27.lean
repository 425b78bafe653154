/- Functions: from the walk of a body to its contract. -/
import Derived.Test.YtmngcmfcbfkimaaAm26
import Derived.Laws.Sem
namespace Go.Proofs.Ytmngcmfcbfkimaa.AM
open Go Go.RowKit

variable {P : Program} {X : Ctx} {W : World} {φ : Phi} {H L : HeapF} {w : World} {ρ : Nat → AV} {a : Act}

def resVal (tmps : Array Value) : ResultVar → Sem Value
  | .tmp t => pure (tmps.getD t undef)
  | .cell a t => do loadVar t (← asAddr (tmps.getD a undef))

theorem results_eq (fn : Func) (tmps : Array Value) : results fn tmps = (do
    let vs ← fn.results.toList.mapM (resVal tmps)
    pure (if h : vs.toArray.size = 1 then vs.toArray[0] else .tuple vs.toArray)) := by
  unfold results
  rw [Array.mapM_eq_mapM_toList]
  simp only [bind_map_left]
  rfl

theorem loadV_res (hX : X.ok P) (hS : HSim W φ H w) {t : Nat} {x y : AV} {v : Value} (hr : Rel W φ H x v) (h : loadV X H t x = some y) :
    ∃ u, (do loadVar t (← asAddr v) : Sem Value).run P w = .ok u w ∧ Rel W φ H y u := by
  unfold loadV at h
  split at h
  · rename_i d hd
    split at h
    · rename_i y0 hp
      split at h
      · rename_i hf
        cases h
        simp only [Bool.and_eq_true] at hf
        obtain ⟨g1, ad, u, rfl, g2, g3⟩ := peek_ok hS (fun _ _ h => h) hr hp
        refine ⟨u, ?_, g2⟩
        simp [asAddr, load_row (hX t d hd) g2 g1 hf.1 g3]
      · cases h
    · cases h
  · cases h

theorem resAll_ok (hX : X.ok P) (hS : HSim W φ H w) (he : EnvOK W φ H ρ a) : ∀ (l : List ResultVar) (xs : List AV), resAll X ρ H l = some xs →
    ∃ vs, (l.mapM (resVal a.tmps) : Sem (List Value)).run P w = .ok vs w ∧ RelL W φ H xs vs
  | [], xs, h => by
    simp only [resAll, Option.some.injEq] at h
    subst h
    exact ⟨[], by simp, by simp [RelL]⟩
  | r :: l, xs, h => by
    simp only [resAll] at h
    split at h
    · rename_i x hx
      split at h
      · rename_i ys hys
        cases h
        obtain ⟨vs, h1, h2⟩ := resAll_ok hX hS he l ys hys
        have : ∃ v, (resVal a.tmps r).run P w = .ok v w ∧ Rel W φ H x v := by
          cases r with
          | tmp t =>
            simp only [resOne, Option.some.injEq] at hx
            subst hx
            exact ⟨_, by simp [resVal], he t⟩
          | cell t u =>
            simp only [resOne] at hx
            exact loadV_res hX hS (he t) hx
        obtain ⟨v, g1, g2⟩ := this
        refine ⟨v :: vs, ?_, by simp only [RelL]; exact ⟨g2, h2⟩⟩
        simp [List.mapM_cons, g1, h1]
      · cases h
    · cases h

theorem resV_ok (hX : X.ok P) (hS : HSim W φ H w) (he : EnvOK W φ H ρ a) {fn : Func} {x : AV} (h : resV X ρ H fn.results.toList = some x) :
    ∃ v, (results fn a.tmps).run P w = .ok v w ∧ Rel W φ H x v := by
  unfold resV at h
  rw [results_eq]
  split at h
  · rename_i y hy
    cases h
    obtain ⟨vs, h1, h2⟩ := resAll_ok hX hS he _ _ hy
    have hl := h2.length
    match vs, hl, h1, h2 with
    | [v], _, h1, h2 => exact ⟨v, by simp [h1], by simpa [RelL] using h2⟩
  · rename_i l hl hy
    cases h
    obtain ⟨vs, h1, h2⟩ := resAll_ok hX hS he _ _ hy
    have hlen := h2.length
    have hne : vs.length ≠ 1 := fun h => by
      rw [h] at hlen
      match l, hlen, hl with
      | [z], _, hl => exact hl z rfl
    refine ⟨.tuple vs.toArray, ?_, ?_⟩
    · simp [h1, hne]
    · simp only [Rel]
      exact ⟨vs, h2, rfl⟩
  · cases h

theorem get_envOf {as : List AV} {k t : Nat} : get (envOf k as) t = if k ≤ t then (as[t - k]?).getD .junk else .junk := by
  induction as generalizing k with
  | nil => simp [envOf, get]
  | cons x l ih =>
    simp only [envOf, get]
    cases hb : Nat.beq k t with
    | true =>
      have := Nat.eq_of_beq_eq_true hb
      subst this
      simp
    | false =>
      have hne : k ≠ t := fun e => by rw [e, Nat.beq_refl] at hb; cases hb
      simp only
      rw [ih]
      by_cases h1 : k + 1 ≤ t
      · rw [if_pos h1, if_pos (by omega)]
        obtain ⟨j, rfl⟩ : ∃ j, t = k + 1 + j := ⟨t - (k + 1), by omega⟩
        rw [show k + 1 + j - (k + 1) = j by omega, show k + 1 + j - k = j + 1 by omega]
        simp
      · rw [if_neg h1, if_neg (by omega)]

theorem startEnv {as : List AV} {vs : List Value} {n : Nat} (h : RelL W φ H as vs) : EnvOK W φ H (get (envOf 0 as)) { tmps := vs.toArray ++ Array.replicate (n - vs.toArray.size) undef, defers := [] } := by
  intro t
  rw [get_envOf, if_pos (Nat.zero_le _), Nat.sub_zero]
  cases hx : as[t]? with
  | none => simp [Rel]
  | some x =>
    obtain ⟨v, h1, h2⟩ := h.get hx
    have hlt : t < vs.length := (List.getElem?_eq_some_iff.1 h1).1
    have : (vs.toArray ++ Array.replicate (n - vs.toArray.size) undef).getD t undef = v := by
      rw [Array.getD_eq_getD_getElem?, Array.getElem?_append_left (by simpa using hlt)]
      simp [h1]
    simp only [Option.getD_some]
    rw [this]
    exact h2

theorem HSim.start (w : World) : HSim w noPhi (find []) w :=
  ⟨Below.refl _ _, fun id b h => by simp [find] at h, fun id b _ _ h => by simp [find] at h, fun i _ x _ _ _ _ h => by simp [find] at h⟩

theorem find_nil : find [] = noHeap := rfl

/-- A body's end. -/
theorem Post.body (hX : X.ok P) {n : Nat} {B : Nat → Prop} {fn : Func} {K : AV → Heap → Prop} {R : Ending → World → Prop} {x : Exit} (h : Post W B n φ H (bodyK X fn.results.toList K) x a w)
    (hR : ∀ v φ' h' r w', HSim W φ' (find h') w' → HExtB B φ H φ' (find h') → Rel W φ' (find h') r v → K r h' → R (.returned v) w') : bodyPost P fn R x a w := by
  obtain ⟨φ', e, hp, h1, h2, h3⟩ := h
  have fin : (match resV X (get e) (find hp) fn.results.toList with
    | some v => K v hp
    | none => False) → a.defers = [] ∧ ∃ v, (results fn a.tmps).run P w = .ok v w ∧ R (.returned v) w := by
    intro h
    split at h
    · rename_i r hr
      obtain ⟨v, g1, g2⟩ := resV_ok hX h1.heap h1.env hr
      exact ⟨h1.defers, v, g1, hR v φ' hp r w h1.heap h2 g2 h⟩
    · exact h.elim
  cases x with
  | normal => exact fin h3
  | ret => exact fin h3
  | exit i => exact h3.elim
  | goto l => exact h3.elim
  | panic l => exact h3.elim
  | outgrown => exact h3.elim

def Told (r : AV) (v : AV) (h : Heap) : Prop := told (find h) r v = some r

/-- A function's contract, from the walk of its body. -/
theorem Fn.intro (hX : X.ok P) (hm : P.follows .mixedOrders = true) {I : Inls} {f : Nat} {as : List AV} {r : AV} {fn : Func} {c : Code} (base : Nat) (hf : P.funcs[f]? = some fn) (hb : fn.body = some c) (hn : (fn.name == "runtime.NumGoroutine") = false)
    (hc : codeOK fn.ntmps c = true) (hlen : Nat.ble as.length fn.ntmps = true)
    (hp : codeP X (jd P X fn.ntmps fun _ => False) I base c (envOf 0 as) [] (bodyK X fn.results.toList (Told r))) : Fn P X.G f as r := by
  refine ⟨⟨fn, c, hf, hb, hn⟩, fun w vs hG hvs => calls_of_wp hf hb ?_⟩
  have hsz : (vs.toArray ++ Array.replicate (fn.ntmps - vs.toArray.size) undef).size = fn.ntmps := by
    have := hvs.length
    have := Nat.le_of_ble_eq_true hlen
    simp
    omega
  refine wp_mono (codeP_ok hX hm c _ [] _ hc hp w noPhi _ w hG ⟨HSim.start w, startEnv (H := find []) hvs, hsz, rfl⟩) fun x a' w' h => ?_
  exact h.body hX fun v φ' h' r' w' g1 g2 g3 g4 => ⟨v, φ', find h', r', rfl, g1, g3, g4⟩

/-- A call that goes on in the caller's memory, from the walk of the body. -/
theorem InlS.intro (hX : X.ok P) (hm : P.follows .mixedOrders = true) {I : Inls} {f : Nat} {as : List AV} {h : Heap} {K : AV → Heap → Prop} {fn : Func} {c : Code} (base : Nat) (hf : P.funcs[f]? = some fn) (hb : fn.body = some c) (hn : (fn.name == "runtime.NumGoroutine") = false)
    (hc : codeOK fn.ntmps c = true) (hlen : Nat.ble as.length fn.ntmps = true)
    (hp : codeP X (jd P X fn.ntmps fun i => i ∈ idsOf h) I base c (envOf 0 as) h (bodyK X fn.results.toList K)) : InlS P X f as h K := by
  refine ⟨⟨fn, c, hf, hb, hn⟩, fun W φ w vs hG hS hvs => calls_of_wp hf hb ?_⟩
  have hsz : (vs.toArray ++ Array.replicate (fn.ntmps - vs.toArray.size) undef).size = fn.ntmps := by
    have := hvs.length
    have := Nat.le_of_ble_eq_true hlen
    simp
    omega
  refine wp_mono (codeP_ok hX hm c _ h _ hc hp W φ _ w hG ⟨hS, startEnv hvs, hsz, rfl⟩) fun x a' w' hq => ?_
  exact hq.body hX fun v φ' h' r' w' g1 g2 g3 g4 => ⟨v, φ', h', r', rfl, g1, fun i b hb => g2 i b (find_ids.2 ⟨b, hb⟩) hb, g3, g4⟩

end Go.Proofs.Ytmngcmfcbfkimaa.AM
