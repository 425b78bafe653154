/- Ported by name: TokA. -/
import Derived.Test.YtipmkjfbdflneaaDoorpReplyD
namespace Go.Proofs.YtipmkjfbdflneaaDoor.AM
open Go Go.Proofs
set_option maxRecDepth 100000
structure Tk where
  t : Int
  u : Int
  e : Int
  x : Int
  d : List Int
abbrev tsh : Sh := .st [.int .u32, .int .u32, .int .u32, .int .u64, dsh]
abbrev tkv (t : Tk) : PV := .st [.i .u32 t.t, .i .u32 t.u, .i .u32 t.e, .i .u64 t.x, dv t.d]
structure Tk.ok (k : Tk) : Prop where
  t : 0 ≤ k.t ∧ k.t < 4294967296
  u : 0 ≤ k.u ∧ k.u < 4294967296
  e : 0 ≤ k.e ∧ k.e < 4294967296
  x : 0 ≤ k.x ∧ k.x < 18446744073709551616
  d : k.d.length = 32 ∧ byt k.d
def rowT (t : Tk) : List Fd := [numF 4 t.t, numF 4 t.u, numF 4 t.e, numF 5 t.x, ⟨6, 0, t.d⟩]
def rowTw (t : Tk) : List Fd := [numF 4 (IntKind.u64.wrap t.t), numF 4 (IntKind.u64.wrap t.u), numF 4 (IntKind.u64.wrap t.e), numF 5 t.x, ⟨6, 0, t.d⟩]
def msgT (t : Tk) : List Int := bytesU t.t 4 ++ bytesU t.u 4 ++ (bytesU t.e 4 ++ bytesU t.x 8)
def bytesT (t : Tk) : List Int := msgT t ++ t.d
theorem rowTw_eq {t : Tk} (h : t.ok) : rowTw t = rowT t := by
  have h1 := h.t
  have h2 := h.u
  have h3 := h.e
  unfold rowTw rowT
  rw [wr_u64 h1.1 (by omega), wr_u64 h2.1 (by omega), wr_u64 h3.1 (by omega)]
theorem rowT_ok {t : Tk} (h : t.ok) : ∀ f ∈ rowT t, f.ok := by
  have h1 := h.t
  have h2 := h.u
  have h3 := h.e
  have h4 := h.x
  intro f hf
  simp only [rowT, List.mem_cons, List.not_mem_nil, or_false] at hf
  rcases hf with rfl | rfl | rfl | rfl | rfl
  · exact numF_ok (by decide) (by omega)
  · exact numF_ok (by decide) (by omega)
  · exact numF_ok (by decide) (by omega)
  · exact numF_ok (by decide) (by omega)
  · exact ⟨(by decide : (0 : Int) ≤ 6 ∧ (6 : Int) < 256), (by decide : (0 : Int) ≤ 0 ∧ (0 : Int) < 18446744073709551616), h.d⟩
theorem rowT_fine {t : Tk} (h : t.ok) : rowE (rowT t) = 0 := by
  have h1 := h.t
  have h2 := h.u
  have h3 := h.e
  have h4 := h.x
  refine row_of (by simp [rowT]) fun f hf => ?_
  simp only [rowT, List.mem_cons, List.not_mem_nil, or_false] at hf
  rcases hf with rfl | rfl | rfl | rfl | rfl <;> simp [badF, widK, mostK] <;> omega
theorem rowT_flat (t : Tk) : flatF (rowT t) = bytesT t := by
  have e3 : ∀ n, oneF (numF 4 n) = bytesU n 4 := fun n => rfl
  have e4 : ∀ n, oneF (numF 5 n) = bytesU n 8 := fun n => rfl
  have e5 : oneF ⟨6, 0, t.d⟩ = t.d := rfl
  simp only [flatF, rowT, bytesT, msgT, List.flatMap_cons, List.flatMap_nil, e3, e4, e5, List.append_nil, List.append_assoc]
def kindsT : List Int := [4, 4, 4, 5, 6]
theorem msgT_len (t : Tk) : (msgT t).length = 20 := by simp [msgT, bytesU_length]
theorem bytesT_len {t : Tk} (h : t.ok) : (bytesT t).length = 52 := by simp [bytesT, msgT_len, h.d.1]
def rdT (b : List Int) : Tk := ⟨num4 b 0, num4 b 4, num4 b 8, numB ((b.drop 12).take 8), b.drop 20⟩
theorem rdT_ok {b : List Int} (hb : byt b) (hl : b.length = 52) : (rdT b).ok :=
  ⟨num4_range (n := 0) hb (by omega), num4_range (n := 4) hb (by omega), num4_range (n := 8) hb (by omega), numB_range _, ⟨by simp [rdT]; omega, fun x hx => hb x (List.mem_of_mem_drop hx)⟩⟩
theorem rdT_back {b : List Int} (hb : byt b) (hl : b.length = 52) : bytesT (rdT b) = b := by
  have s : ∀ n k, n + k ≤ 52 → k ≤ 8 → bytesU (numB ((b.drop n).take k)) k = (b.drop n).take k := fun n k h1 h2 =>
    (bytesU_numB k _ (by simp; omega) h2 fun x hx => hb x (List.mem_of_mem_drop (List.mem_of_mem_take hx))).1
  unfold bytesT msgT rdT num4
  rw [s 0 4 (by omega) (by omega), s 4 4 (by omega) (by omega), s 8 4 (by omega) (by omega), s 12 8 (by omega) (by omega)]
  have t : ∀ n k, (b.drop n).take k ++ b.drop (n + k) = b.drop n := fun n k => by
    rw [← List.drop_drop, List.take_append_drop]
  rw [List.append_assoc, List.append_assoc, List.append_assoc, t 12 8, t 8 4, t 4 4, t 0 4]
  simp
theorem rd_bytesT {t : Tk} (h : t.ok) : rdT (bytesT t) = t := by
  obtain ⟨a, b, c, x, d⟩ := t
  have h1 := h.t
  have h2 := h.u
  have h3 := h.e
  have h4 := h.x
  dsimp only at h1 h2 h3 h4
  have hl : ∀ n w, (bytesU n w).length = w := bytesU_length
  have e : bytesT ⟨a, b, c, x, d⟩ = bytesU a 4 ++ (bytesU b 4 ++ (bytesU c 4 ++ (bytesU x 8 ++ d))) := by simp [bytesT, msgT]
  have dd : ∀ (a b : List Int) (n m : Nat), a.length = m → (a ++ b).drop (m + n) = b.drop n := fun a b n m h => by
    rw [List.drop_append, List.drop_eq_nil_of_le (by omega), List.nil_append, h]
    congr 1
    omega
  have k : ∀ (n : Int) (w : Nat) (b : List Int), (bytesU n w ++ b).take w = bytesU n w := fun n w b => List.take_left' (hl n w)
  unfold rdT num4
  rw [e]
  rw [dd _ _ 0 4 (hl a 4), dd _ _ 4 4 (hl a 4), dd _ _ 8 4 (hl a 4), dd _ _ 16 4 (hl a 4)]
  rw [dd _ _ 0 4 (hl b 4), dd _ _ 4 4 (hl b 4), dd _ _ 12 4 (hl b 4)]
  rw [dd _ _ 0 4 (hl c 4), dd _ _ 8 4 (hl c 4)]
  rw [dd _ _ 0 8 (hl x 8)]
  simp only [List.drop_zero, k]
  rw [num_bytes (by decide) h1.1 (by simpa using h1.2), num_bytes (by decide) h2.1 (by simpa using h2.2), num_bytes (by decide) h3.1 (by simpa using h3.2), num_bytes (by decide) h4.1 (by simpa using h4.2)]
theorem readT {b : List Int} (hb : byt b) : (b.length = 52 ∧ readL kindsT b = (rowT (rdT b), 0)) ∨ (b.length ≠ 52 ∧ (readL kindsT b).2 ≠ 0) := by
  by_cases h : b.length = 52
  · left
    have ho := rdT_ok hb h
    have hr := read_write (rowT_ok ho) (rowT_fine ho)
    rw [rowT_flat, rdT_back hb h] at hr
    exact ⟨h, hr⟩
  · right
    refine ⟨h, fun he => h ?_⟩
    obtain ⟨g1, g2, g3, g4⟩ := read_back (byt_of rfl) hb he
    generalize (readL kindsT b).1 = l at *
    have hk : l.map Fd.k = kindsT := g1
    have hlen : l.length = 5 := by
      have := congrArg List.length hk
      simpa [kindsT] using this
    match l, hlen, hk with
    | [f0, f1, f2, f3, f4], _, hk =>
      simp only [kindsT, List.map_cons, List.map_nil, List.cons.injEq, and_true] at hk
      obtain ⟨k0, k1, k2, k3, k4⟩ := hk
      have w0 := oneF_wid (g4 f0 (by simp))
      have w1 := oneF_wid (g4 f1 (by simp))
      have w2 := oneF_wid (g4 f2 (by simp))
      have w3 := oneF_wid (g4 f3 (by simp))
      have w4 := oneF_wid (g4 f4 (by simp))
      rw [k0] at w0
      rw [k1] at w1
      rw [k2] at w2
      rw [k3] at w3
      rw [k4] at w4
      rw [← g3]
      simp only [flatF, List.flatMap_cons, List.flatMap_nil, List.length_append, List.length_nil, w0, w1, w2, w3, w4]
      decide
theorem f88_ok (n : Int) : Fn Tryd.prog X.G 88 [.p (.i .u32 n)] (.p (fv (numF 4 (IntKind.u64.wrap n)))) := by
  refine Fn.intro (I := []) hX hm 0 Tryd.func88 rfl rfl (by kernel_rfl) rfl ?_
  conv => whnf
  rfl
theorem f65_ok (t : Tk) (h : t.ok) : Fn Tryd.prog X.G 65 [.p (tkv t)] (fvs (rowT t)) := by
  rw [← rowTw_eq h]
  refine Fn.intro (I := []) hX hm 0 Tryd.func65 rfl rfl (by kernel_rfl) rfl ?_
  conv => whnf
  refine ⟨_, f88_ok t.t, ?_⟩
  conv => whnf
  refine ⟨_, f88_ok t.u, ?_⟩
  conv => whnf
  refine ⟨_, f88_ok t.e, ?_⟩
  conv => whnf
  rfl
theorem f30_ok (t : Tk) (h : t.ok) : Fn Tryd.prog X.G 30 [.p (tkv t)] (bvs (bytesT t)) := by
  refine Fn.intro (I := []) hX hm 0 Tryd.func30 rfl rfl (by kernel_rfl) rfl ?_
  have c2 := f28_ok (rowT t) (rowT_ok h) (by simp [rowT])
  rw [rowT_fine h, rowL_eq (rowT_fine h), rowT_flat] at c2
  conv => whnf
  refine ⟨_, f65_ok t h, ?_⟩
  conv => whnf
  refine ⟨_, c2, ?_⟩
  conv => whnf
  rfl
def msgTw (t : Tk) : List Int := bytesU (IntKind.u64.wrap t.t) 4 ++ bytesU (IntKind.u64.wrap t.u) 4 ++ bytesU (IntKind.u64.wrap t.e) 4 ++ bytesU t.x 8
theorem msgTw_eq {t : Tk} (h : t.ok) : msgTw t = msgT t := by
  have h1 := h.t
  have h2 := h.u
  have h3 := h.e
  unfold msgTw msgT
  rw [wr_u64 h1.1 (by omega), wr_u64 h2.1 (by omega), wr_u64 h3.1 (by omega), List.append_assoc]
end Go.Proofs.YtipmkjfbdflneaaDoor.AM
