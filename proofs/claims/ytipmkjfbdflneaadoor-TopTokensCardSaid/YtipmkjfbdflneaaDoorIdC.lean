/- Tables: messages tell tokens and commands apart; what the program checks. -/
import Derived.Test.YtipmkjfbdflneaaDoorIdB
namespace Go.Proofs.YtipmkjfbdflneaaDoor.AM
open Go Go.Proofs
set_option maxRecDepth 100000

/-! ### Messages -/
theorem u8_inj {a b : Int} (ha : 0 ≤ a ∧ a < 256) (hb : 0 ≤ b ∧ b < 256) (h : UInt8.ofNat a.toNat = UInt8.ofNat b.toNat) : a = b := by
  have := congrArg UInt8.toNat h
  simp only [UInt8.toNat_ofNat'] at this
  rw [Nat.mod_eq_of_lt (by omega), Nat.mod_eq_of_lt (by omega)] at this
  omega
theorem strOf_inj : ∀ {a b : List Int}, byt a → byt b → strOf (bv a) = strOf (bv b) → a = b := by
  intro a b ha hb h
  have h1 : (a.map fun n => UInt8.ofNat n.toNat) = b.map fun n => UInt8.ofNat n.toNat := by
    have h2 := congrArg (fun s : ByteArray => s.data.toList) h
    simp only [strOf, List.map_map] at h2
    exact h2
  clear h
  induction a generalizing b with
  | nil => cases b with
    | nil => rfl
    | cons => simp at h1
  | cons x a ih =>
    cases b with
    | nil => simp at h1
    | cons y b =>
      simp only [List.map_cons, List.cons.injEq] at h1
      rw [u8_inj (ha x (by simp)) (hb y (by simp)) h1.1, ih (fun z hz => ha z (by simp [hz])) (fun z hz => hb z (by simp [hz])) h1.2]
theorem comF_okF {c : Cm} : okF (comF c) ↔ okC c := ⟨fun h => h.elim (fun h => absurd h.1 (show ¬ (2 : Int) = 1 by decide)) fun h => h.2.2, fun h => Or.inr ⟨rfl, ⟨rfl, rfl, rfl⟩, h⟩⟩
theorem tokF_okF {t : Tk} : okF (tokF t) ↔ t.t < 16 := ⟨fun h => h.elim (fun h => h.2.2) fun h => absurd h.1 (show ¬ (1 : Int) = 2 by decide), fun h => Or.inl ⟨rfl, rfl, h⟩⟩
theorem rngI {a b n : Int} (h : (decide (a ≤ n) && decide (n < b)) = true) : a ≤ n ∧ n < b := by simpa using h
theorem zd_bytI : byt zd := fun x hx => by rw [List.mem_replicate] at hx; rw [hx.2]; decide
theorem l00_okI : l00.ok := ⟨by decide, by decide, by decide⟩
theorem c00_okI : c00.ok := ⟨rngI rfl, rngI rfl, rngI rfl, l00_okI, l00_okI, l00_okI, rngI rfl, rngI rfl, rngI rfl, ⟨rfl, zd_bytI⟩⟩
theorem t0T_okI : t0T.ok := ⟨rngI rfl, rngI rfl, rngI rfl, rngI rfl, ⟨rfl, zd_bytI⟩⟩
theorem tokF_ok {t : Tk} (h : t.ok) : (tokF t).ok := ⟨rngI rfl, h, rngI rfl, rngI rfl, c00_okI⟩
theorem comF_ok {c : Cm} (h : c.ok) : (comF c).ok := ⟨rngI rfl, t0T_okI, rngI rfl, rngI rfl, h⟩
theorem bareK_ok {t : Tk} (h : t.ok) : (bareK t).ok := ⟨h.t, h.u, h.e, h.x, ⟨rfl, zd_bytI⟩⟩
theorem plainC_ok {c : Cm} (h : c.ok) : (plainC c).ok := ⟨h.op, h.t, h.u, h.l0, h.l1, h.l2, h.us, h.en, h.x, ⟨rfl, zd_bytI⟩⟩
theorem msgC_bytI {c : Cm} (h : c.ok) (hc : okC c) : byt (msgC c) := by
  have := bytesF_byt (comF_ok h) (comF_okF.2 hc)
  rw [show bytesF (comF c) = bytesC c from rfl] at this
  exact fun x hx => this x (List.mem_append_left _ hx)
theorem msgT_injI {a b : Tk} (ha : a.ok) (hb : b.ok) : msgT a = msgT b ↔ bareK a = bareK b := by
  constructor
  · intro h
    have h1 : bytesT (bareK a) = bytesT (bareK b) := by
      show msgT a ++ zd = msgT b ++ zd
      rw [h]
    rw [← rd_bytesT (bareK_ok ha), ← rd_bytesT (bareK_ok hb), h1]
  · intro h
    show msgT (bareK a) = msgT (bareK b)
    rw [h]
theorem msgC_inj {a b : Cm} (ha : a.ok) (hb : b.ok) (ca : okC a) (cb : okC b) : msgC a = msgC b ↔ plainC a = plainC b := by
  constructor
  · intro h
    have h1 : bytesC (plainC a) = bytesC (plainC b) := by
      show msgC a ++ zd = msgC b ++ zd
      rw [h]
    rw [← rd_bytesC (plainC_ok ha) ca, ← rd_bytesC (plainC_ok hb) cb, h1]
  · intro h
    show msgC (plainC a) = msgC (plainC b)
    rw [h]
theorem strT_inj {a b : Tk} (ha : a.ok) (hb : b.ok) : strF (tokF a) = strF (tokF b) ↔ bareK a = bareK b := by
  rw [← msgT_injI ha hb]
  exact ⟨fun h => strOf_inj (msgT_byt a) (msgT_byt b) h, fun h => congrArg (fun m => strOf (bv m)) h⟩
theorem msgF_com {c : Cm} (h : okC c) : msgF (comF c) = msgC c := by
  unfold msgF
  rw [if_pos (show (comF c).k = 2 from rfl)]
  show befC c = msgC c
  unfold befC
  rw [if_pos h]
theorem strC_inj {a b : Cm} (ha : a.ok) (hb : b.ok) (ca : okC a) (cb : okC b) : strF (comF a) = strF (comF b) ↔ plainC a = plainC b := by
  rw [← msgC_inj ha hb ca cb]
  unfold strF
  rw [msgF_com ca, msgF_com cb]
  exact ⟨fun h => strOf_inj (msgC_bytI ha ca) (msgC_bytI hb cb) h, fun h => congrArg (fun m => strOf (bv m)) h⟩
theorem strTC {t : Tk} {c : Cm} (h : okC c) : strF (tokF t) ≠ strF (comF c) := by
  intro he
  have h1 := congrArg (fun s : ByteArray => s.data.toList.length) he
  unfold strF at h1
  rw [msgF_com h] at h1
  simp only [strOf, List.length_map] at h1
  rw [msgC_len, show msgF (tokF t) = msgT t from rfl, msgT_len] at h1
  cases h1
theorem nodup_iff {α β γ : Type} {f : α → β} {g : α → γ} : ∀ {l : List α}, (∀ a ∈ l, ∀ b ∈ l, f a = f b ↔ g a = g b) → ((l.map f).Nodup ↔ (l.map g).Nodup)
  | [], _ => by simp
  | x :: l, h => by
    have ih := nodup_iff (f := f) (g := g) (l := l) fun a ha b hb => h a (by simp [ha]) b (by simp [hb])
    rw [List.map_cons, List.map_cons, List.nodup_cons, List.nodup_cons, ih]
    have : f x ∈ l.map f ↔ g x ∈ l.map g := by
      simp only [List.mem_map]
      constructor
      · rintro ⟨a, ha, he⟩; exact ⟨a, ha, (h a (by simp [ha]) x (by simp)).1 he⟩
      · rintro ⟨a, ha, he⟩; exact ⟨a, ha, (h a (by simp [ha]) x (by simp)).2 he⟩
    rw [this]
def keysT (l : List Tk) : List ByteArray := l.map fun t => strF (tokF t)
def keysC (l : List Cm) : List ByteArray := l.map fun c => strF (comF c)
theorem once_iff {d : Id} (hd : d.ok) (hv : validT d) : onceT d ↔ (keysT d.ts ++ keysC d.cs).Nodup := by
  unfold onceT
  rw [← nodup_iff (f := fun t => strF (tokF t)) (g := bareK) fun a ha b hb => strT_inj (hd.ts a ha) (hd.ts b hb), ← nodup_iff (f := fun c => strF (comF c)) (g := plainC) fun a ha b hb => strC_inj (hd.cs a ha) (hd.cs b hb) (hv.2 a ha) (hv.2 b hb),
    List.nodup_append]
  constructor
  · rintro ⟨h1, h2⟩
    refine ⟨h1, h2, fun a ha b hb e => ?_⟩
    obtain ⟨t, _, rfl⟩ := List.mem_map.1 ha
    obtain ⟨c, hc, rfl⟩ := List.mem_map.1 hb
    exact strTC (hv.2 c hc) e
  · rintro ⟨h1, h2, _⟩
    exact ⟨h1, h2⟩
theorem hasK_iff {s : ByteArray} {l : List ByteArray} : hasK s l = true ↔ s ∈ l := by
  induction l with
  | nil => simp [hasK]
  | cons x l ih =>
    simp only [hasK, Bool.or_eq_true, List.mem_cons, ih]
    rw [MapKept.bytes_beq]
theorem addKey_new {s : ByteArray} {l : List ByteArray} (h : hasK s l = false) : addKey s l = l ++ [s] := by unfold addKey; rw [h]
theorem chkT_ok {t : Tk} (h : t.t < 16) : chkFr (tokF t) = 0 := by unfold chkFr; rw [if_pos (tokF_okF.2 h)]
theorem chkT_bad {t : Tk} (h : ¬ t.t < 16) : chkFr (tokF t) = 8 := by unfold chkFr; rw [if_neg fun x => h (tokF_okF.1 x)]
theorem chkC_ok {c : Cm} (h : okC c) : chkFr (comF c) = 0 := by unfold chkFr; rw [if_pos (comF_okF.2 h)]
theorem chkC_bad {c : Cm} (h : ¬ okC c) : chkFr (comF c) = 8 := by unfold chkFr; rw [if_neg fun x => h (comF_okF.1 x)]
theorem nodup_no {s : ByteArray} {l m : List ByteArray} (h : s ∈ l) : ¬ (l ++ s :: m).Nodup := fun hn => (List.nodup_append.1 hn).2.2 s h s (by simp) rfl
theorem cut_map {α β : Type} (f : α → β) {l : List α} {i : Nat} (h : i < l.length) : l.map f = (l.take i).map f ++ f l[i] :: (l.drop (i + 1)).map f := by
  rw [← List.map_cons, ← List.map_append, ← List.drop_eq_getElem_cons h, List.take_append_drop]
theorem take_map {α β : Type} (f : α → β) {l : List α} {i : Nat} (h : i < l.length) : (l.take (i + 1)).map f = (l.take i).map f ++ [f l[i]] := by
  rw [List.take_add_one, List.getElem?_eq_getElem h, List.map_append]
  rfl
end Go.Proofs.YtipmkjfbdflneaaDoor.AM
