/- Tables: what is there, and with its tag; what the program has minted. -/
import Derived.Test.YtipmkjfbdflneaaDoorIdD
namespace Go.Proofs.YtipmkjfbdflneaaDoor.AM
open Go Go.Proofs
set_option maxRecDepth 100000

/-- A table that passes the check. -/
structure Id.fine (d : Id) : Prop where
  n : ¬ 100 < d.n
  valid : validT d
  once : onceT d
theorem fine_iff {d : Id} : chkI d = 0 ↔ d.fine := by
  constructor
  · intro h
    unfold chkI at h
    split at h
    · cases h
    · rename_i h1
      split at h
      · rename_i h2
        split at h
        · rename_i h3; exact ⟨h1, h2, h3⟩
        · cases h
      · cases h
  · intro h
    exact chkI_0 h.n h.valid h.once
def thereP (d : Id) (f : Fr) : Prop := (f.k = 1 ∧ ∃ t ∈ d.ts, bareK t = bareK f.tk) ∨ (f.k = 2 ∧ ∃ c ∈ d.cs, plainC c = plainC f.cm)
def sameP (d : Id) (f : Fr) : Prop := (f.k = 1 ∧ f.tk ∈ d.ts) ∨ (f.k = 2 ∧ f.cm ∈ d.cs)
open Classical in
noncomputable def thereB (d : Id) (f : Fr) : Bool := if thereP d f then true else false
open Classical in
noncomputable def sameB (d : Id) (f : Fr) : Bool := if sameP d f then true else false
theorem thereB_t {d : Id} {f : Fr} (h : thereP d f) : thereB d f = true := by unfold thereB; rw [if_pos h]
theorem thereB_f {d : Id} {f : Fr} (h : ¬ thereP d f) : thereB d f = false := by unfold thereB; rw [if_neg h]
theorem sameB_t {d : Id} {f : Fr} (h : sameP d f) : sameB d f = true := by unfold sameB; rw [if_pos h]
theorem sameB_f {d : Id} {f : Fr} (h : ¬ sameP d f) : sameB d f = false := by unfold sameB; rw [if_neg h]
theorem thereB_iff {d : Id} {f : Fr} : thereB d f = true ↔ thereP d f := by
  constructor
  · intro h
    apply Classical.byContradiction
    intro hn
    rw [thereB_f hn] at h
    cases h
  · exact thereB_t
theorem sameB_iff {d : Id} {f : Fr} : sameB d f = true ↔ sameP d f := by
  constructor
  · intro h
    apply Classical.byContradiction
    intro hn
    rw [sameB_f hn] at h
    cases h
  · exact sameB_t
theorem same_there {d : Id} {f : Fr} (h : sameP d f) : thereP d f := by
  rcases h with ⟨h1, h2⟩ | ⟨h1, h2⟩
  · exact .inl ⟨h1, _, h2, rfl⟩
  · exact .inr ⟨h1, _, h2, rfl⟩
/-- One of a list without two of one key. -/
theorem once_eq {α β : Type} {κ : α → β} : ∀ {l : List α}, (l.map κ).Nodup → ∀ {a b : α}, a ∈ l → b ∈ l → κ a = κ b → a = b
  | [], _, a, b, ha, _, _ => by simp at ha
  | x :: l, h, a, b, ha, hb, he => by
    rw [List.map_cons, List.nodup_cons] at h
    have h1 := h.1
    have h2 := h.2
    rcases List.mem_cons.1 ha with ea | ea
    · rcases List.mem_cons.1 hb with eb | eb
      · rw [ea, eb]
      · exact absurd (List.mem_map.2 ⟨b, eb, by rw [← ea]; exact he.symm⟩) h1
    · rcases List.mem_cons.1 hb with eb | eb
      · exact absurd (List.mem_map.2 ⟨a, ea, by rw [← eb]; exact he⟩) h1
      · exact once_eq h2 ea eb he
/-- A valid frame, by its kind. -/
theorem okF_cases {f : Fr} (h : okF f) : (f.k = 1 ∧ f.cm = c00 ∧ f.tk.t < 16 ∧ strF f = strF (tokF f.tk)) ∨ (f.k = 2 ∧ f.tk = t0T ∧ okC f.cm ∧ strF f = strF (comF f.cm)) := by
  rcases h with h | h
  · refine .inl ⟨h.1, h.2.1, h.2.2, ?_⟩
    unfold strF msgF
    rw [if_neg (by rw [h.1]; decide), if_neg (show ¬ (tokF f.tk).k = 2 from show ¬ (1 : Int) = 2 by decide)]
    rfl
  · refine .inr ⟨h.1, h.2.1.1, h.2.2, ?_⟩
    unfold strF msgF
    rw [if_pos h.1, if_pos (show (comF f.cm).k = 2 from rfl)]
    rfl
section
variable {d : Id} {f : Fr} (hd : d.ok) (hf : f.ok) (hF : d.fine) (h : okF f)
include hd hf hF h
theorem hitT {t : Tk} (ht : t ∈ d.ts) (hs : strF (tokF t) = strF f) : thereB d f = true ∧ sameB d f = decide (t = f.tk) ∧ c00 = f.cm := by
  rcases okF_cases h with ⟨h1, h2, h3, h4⟩ | ⟨h1, h2, h3, h4⟩
  · rw [h4] at hs
    have hb := (strT_inj (hd.ts t ht) hf.tk).1 hs
    refine ⟨thereB_t (.inl ⟨h1, t, ht, hb⟩), ?_, h2.symm⟩
    by_cases he : t = f.tk
    · rw [decide_eq_true he]
      exact sameB_t (.inl ⟨h1, he ▸ ht⟩)
    · rw [decide_eq_false he]
      refine sameB_f fun hsame => ?_
      rcases hsame with ⟨_, hm⟩ | ⟨hk, _⟩
      · exact he (once_eq hF.once.1 ht hm hb)
      · omega
  · rw [h4] at hs
    exact absurd hs (strTC h3)
theorem hitC {c : Cm} (hc : c ∈ d.cs) (hs : strF (comF c) = strF f) : thereB d f = true ∧ sameB d f = decide (c = f.cm) ∧ t0T = f.tk := by
  rcases okF_cases h with ⟨h1, h2, h3, h4⟩ | ⟨h1, h2, h3, h4⟩
  · rw [h4] at hs
    exact absurd hs.symm (strTC (hF.valid.2 c hc))
  · rw [h4] at hs
    have hb := (strC_inj (hd.cs c hc) hf.cm (hF.valid.2 c hc) h3).1 hs
    refine ⟨thereB_t (.inr ⟨h1, c, hc, hb⟩), ?_, h2.symm⟩
    by_cases he : c = f.cm
    · rw [decide_eq_true he]
      exact sameB_t (.inr ⟨h1, he ▸ hc⟩)
    · rw [decide_eq_false he]
      refine sameB_f fun hsame => ?_
      rcases hsame with ⟨hk, _⟩ | ⟨_, hm⟩
      · omega
      · exact he (once_eq hF.once.2 hc hm hb)
theorem missI (hT : ∀ t ∈ d.ts, strF (tokF t) ≠ strF f) (hC : ∀ c ∈ d.cs, strF (comF c) ≠ strF f) : thereB d f = false ∧ sameB d f = false := by
  have hno : ¬ thereP d f := by
    rcases okF_cases h with ⟨h1, h2, h3, h4⟩ | ⟨h1, h2, h3, h4⟩
    · rintro (⟨_, t, ht, hb⟩ | ⟨hk, _⟩)
      · exact hT t ht (by rw [h4]; exact (strT_inj (hd.ts t ht) hf.tk).2 hb)
      · omega
    · rintro (⟨hk, _⟩ | ⟨_, c, hc, hb⟩)
      · omega
      · exact hC c hc (by rw [h4]; exact (strC_inj (hd.cs c hc) hf.cm (hF.valid.2 c hc) h3).2 hb)
  exact ⟨thereB_f hno, sameB_f fun hs => hno (same_there hs)⟩
end
end Go.Proofs.YtipmkjfbdflneaaDoor.AM
