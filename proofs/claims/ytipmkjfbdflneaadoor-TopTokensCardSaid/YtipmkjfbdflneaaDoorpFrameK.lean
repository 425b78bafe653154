/- Ported by name: FrameK. -/
import Derived.Test.YtipmkjfbdflneaaDoorpFrameQ
namespace Go.Proofs.YtipmkjfbdflneaaDoor.AM
open Go Go.Proofs
set_option maxRecDepth 100000
theorem same_frT (f : Fr) : PV.same (frv f) (frv f) = true := by
  rw [same_fr]
  exact decide_eq_true rfl
theorem bytesT_byt {t : Tk} (h : t.ok) : byt (bytesT t) := by rw [← rowT_flat]; exact flatF_byt (rowT_ok h)
theorem byt_app {a b : List Int} (ha : byt a) (hb : byt b) : byt (a ++ b) := fun x hx => by
  rcases List.mem_append.1 hx with h | h
  · exact ha x h
  · exact hb x h
theorem bytesF_byt {f : Fr} (hf : f.ok) (h : okF f) : byt (bytesF f) := by
  unfold bytesF
  split
  · rename_i k
    have hc : okC f.cm := by
      rcases h with h | h
      · omega
      · exact h.2.2
    rw [← rowC_flat hf.cm]
    exact flatF_byt (rowC_ok hf.cm hc)
  · exact byt_app (byt_app (byt_of rfl) (bytesT_byt hf.tk)) (byt_app (bytesU_byt _ _) (bytesU_byt _ _))
theorem rd_bytesR {f : Fr} (hf : f.ok) (hk : f.k = 1) (hc : f.cm = c00) : rdR (bytesR f) = f := by
  obtain ⟨k, t, e, c, m⟩ := f
  obtain rfl : k = 1 := hk
  obtain rfl : m = c00 := hc
  have ht : t.ok := hf.tk
  have he : 0 ≤ e ∧ e < 65536 := hf.ep
  have hq : 0 ≤ c ∧ c < 4294967296 := hf.co
  have hl := bytesT_len ht
  have e1 : (([1] ++ bytesT t ++ (bytesU e 2 ++ bytesU c 4)).drop 1).take 52 = bytesT t := by
    rw [List.append_assoc]
    show (bytesT t ++ (bytesU e 2 ++ bytesU c 4)).take 52 = _
    exact List.take_left' hl
  have e2 : ([1] ++ bytesT t ++ (bytesU e 2 ++ bytesU c 4)).drop 53 = bytesU e 2 ++ bytesU c 4 := List.drop_left' (by simp [hl])
  have e3 : ([1] ++ bytesT t ++ (bytesU e 2 ++ bytesU c 4)).drop 55 = bytesU c 4 := by
    rw [show (55 : Nat) = 53 + 2 from rfl, ← List.drop_drop, e2]
    exact List.drop_left' (bytesU_length _ _)
  unfold rdR num4 bytesR
  rw [e1, e2, e3, rd_bytesT ht, List.take_left' (bytesU_length _ _), List.take_of_length_le (by rw [bytesU_length]; decide),
    num_bytes (by decide) he.1 (by simpa using he.2), num_bytes (by decide) hq.1 (by simpa using hq.2)]
theorem rd_bytesC {c : Cm} (ho : c.ok) (hc : okC c) : rdC (bytesC c) = c := by
  have hb : byt (bytesC c) := by
    rw [← rowC_flat ho]
    exact flatF_byt (rowC_ok ho hc)
  have h1 := readC hb (bytesC_len ho) rfl
  have h2 := read_write (rowC_ok ho hc) (rowC_fine ho hc)
  rw [rowC_flat ho, show kindsL (rowC c) = kindsC from rfl, h1] at h2
  have e : rowC (rdC (bytesC c)) = rowC c := congrArg Prod.fst h2
  generalize rdC (bytesC c) = d at *
  simp only [rowC, numF, List.cons.injEq, Fd.mk.injEq, true_and, and_true] at e
  rw [Cm.eq_iff, Lm.eq_iff, Lm.eq_iff, Lm.eq_iff]
  simp only [e, and_self]
theorem parse_bytesF {f : Fr} (hf : f.ok) (h : okF f) : parseF (bytesF f) = (f, 0) := by
  have hl := bytesF_len hf
  rcases h with ⟨hk, hc, ht⟩ | ⟨hk, hn, hc⟩
  · rw [if_neg (by omega)] at hl
    have e : bytesF f = bytesR f := by unfold bytesF; rw [if_neg (by omega)]
    rw [e] at hl ⊢
    have hr := rd_bytesR hf hk hc
    rw [parse_R ⟨hl, rfl, by rw [hr]; exact ht⟩, hr]
  · rw [if_pos hk] at hl
    have e : bytesF f = bytesC f.cm := by unfold bytesF; rw [if_pos hk]
    rw [e] at hl ⊢
    have hr := rd_bytesC hf.cm hc
    rw [parse_C ⟨hl, rfl, by rw [hr]; exact hc⟩]
    unfold rdF2
    rw [hr]
    have hf2 : (⟨2, t0T, 0, 0, f.cm⟩ : Fr) = f := (Fr.eq_iff _ _).2 ⟨hk.symm, hn.1.symm, hn.2.1.symm, hn.2.2.symm, rfl⟩
    rw [hf2]
theorem parse_is {b : List Int} (hb : byt b) : ∃ t e, parseF b = (t, e) ∧ t.ok ∧ ((e = 0 ∧ okF t ∧ b = bytesF t) ∨ (e = 12 ∧ t = f00)) := by
  by_cases h1 : goodR b
  · refine ⟨rdR b, 0, parse_R h1, rdR_ok hb h1.1, .inl ⟨rfl, (okF_R b).2 h1.2.2, ?_⟩⟩
    rw [show bytesF (rdR b) = bytesR (rdR b) from rfl, rdR_back hb h1.1, head_back h1.1 h1.2.1]
  · by_cases h2 : goodC b
    · refine ⟨rdF2 b, 0, parse_C h2, rdF2_ok hb h2.1, .inl ⟨rfl, (okF_C _).2 h2.2.2, ?_⟩⟩
      rw [show bytesF (rdF2 b) = bytesC (rdC b) from rfl, rdC_back hb h2.1, head_back h2.1 h2.2.1]
    · exact ⟨f00, 12, parse_no h1 h2, f00_ok, .inr ⟨rfl, rfl⟩⟩
theorem bytesF_inj {f g : Fr} (hf : f.ok) (hg : g.ok) (h1 : okF f) (h2 : okF g) (h : bytesF f = bytesF g) : f = g := by
  have e1 := parse_bytesF hf h1
  have e2 := parse_bytesF hg h2
  rw [h, e2] at e1
  exact (congrArg Prod.fst e1).symm
def rqF (n : Int) : Fr := ⟨1, ⟨n, 0, 0, 0, zd⟩, 0, 0, c00⟩
def cmF (c : Cm) : Fr := ⟨2, t0T, 0, 0, c⟩
theorem rqF_ok {n : Int} (h : 0 ≤ n ∧ n < 4294967296) : (rqF n).ok := ⟨(by decide : (0 : Int) ≤ 1 ∧ (1 : Int) < 256), ⟨h, (by decide : (0 : Int) ≤ 0 ∧ (0 : Int) < 4294967296), (by decide : (0 : Int) ≤ 0 ∧ (0 : Int) < 4294967296), (by decide : (0 : Int) ≤ 0 ∧ (0 : Int) < 18446744073709551616), (by decide : zd.length = 32), byt_of rfl⟩, (by decide : (0 : Int) ≤ 0 ∧ (0 : Int) < 65536), (by decide : (0 : Int) ≤ 0 ∧ (0 : Int) < 4294967296), c00_ok⟩
theorem cmF_ok {c : Cm} (h : c.ok) : (cmF c).ok := ⟨(by decide : (0 : Int) ≤ 2 ∧ (2 : Int) < 256), t0T_ok, (by decide : (0 : Int) ≤ 0 ∧ (0 : Int) < 65536), (by decide : (0 : Int) ≤ 0 ∧ (0 : Int) < 4294967296), h⟩
def rq1 : List Int := [1, 0, 0, 0, 1] ++ List.replicate 54 0
def gone3 : List Int := [2, 2, 0, 0, 0, 3] ++ List.replicate 82 0
def gone9 : List Int := [2, 2, 0, 0, 0, 3, 0, 0, 0, 1] ++ List.replicate 78 0
def cm3 : Cm := ⟨2, 3, 0, l00, l00, l00, 0, 0, 0, zd⟩
theorem cm3_ok : cm3.ok := ⟨by decide, by decide, by decide, l00_ok, l00_ok, l00_ok, by decide, by decide, by decide, by decide, byt_of rfl⟩
end Go.Proofs.YtipmkjfbdflneaaDoor.AM
