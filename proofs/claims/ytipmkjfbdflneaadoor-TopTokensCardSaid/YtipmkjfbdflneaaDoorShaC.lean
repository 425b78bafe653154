/- Sha: the reference takes in a block. -/
import Derived.Test.YtipmkjfbdflneaaDoorShaB
namespace Go.Proofs.YtipmkjfbdflneaaDoor.AM
open Go Go.Proofs
set_option maxRecDepth 100000

theorem pre_get0 {L : List Int} {t k : Nat} (h : L.length = t) (hk : k ≤ t) (hk1 : 1 ≤ k) (ht : t < 1000) : getI (wv L) (IntKind.i64.wrap ((t : Int) - (k : Int))) = some (PV.i .u32 (L.getD (t - k) 0)) := by
  have := pre_get (R := []) h hk hk1 ht
  rwa [List.append_nil] at this
theorem pre_nth0 {L : List Int} {t k : Nat} (h : L.length = t) (hk : k ≤ t) (hk1 : 1 ≤ k) (ht : t < 1000) : (wv L)[(IntKind.i64.wrap ((t : Int) - (k : Int))).toNat]? = some (PV.i .u32 (L.getD (t - k) 0)) := by
  have := pre_nth (R := []) h hk hk1 ht
  rwa [List.append_nil] at this
theorem word_ref {b : List Int} (hb : byt b) (t : Nat) : IntKind.u32.wrap (IntKind.u32.wrap (IntKind.u32.wrap (IntKind.u32.wrap (IntKind.u32.wrap (b.getD (4 * t) 0) * 16777216) + IntKind.u32.wrap (IntKind.u32.wrap (b.getD (4 * t + 1) 0) * 65536)) +
    IntKind.u32.wrap (IntKind.u32.wrap (b.getD (4 * t + 2) 0) * 256)) + IntKind.u32.wrap (b.getD (4 * t + 3) 0)) = wordN b t := by
  have h0 := byt_getD hb (4 * t)
  have h1 := byt_getD hb (4 * t + 1)
  have h2 := byt_getD hb (4 * t + 2)
  have h3 := byt_getD hb (4 * t + 3)
  unfold wordN
  generalize b.getD (4 * t) 0 = a0 at *
  generalize b.getD (4 * t + 1) 0 = a1 at *
  generalize b.getD (4 * t + 2) 0 = a2 at *
  generalize b.getD (4 * t + 3) 0 = a3 at *
  rw [wr_u32 (n := a0) h0.1 (by omega), wr_u32 (n := a1) h1.1 (by omega), wr_u32 (n := a2) h2.1 (by omega), wr_u32 (n := a3) h3.1 (by omega)]
  rw [wr_u32 (n := a0 * 16777216) (by omega) (by omega), wr_u32 (n := a1 * 65536) (by omega) (by omega), wr_u32 (n := a2 * 256) (by omega) (by omega)]
  rw [wr_u32 (n := a0 * 16777216 + a1 * 65536) (by omega) (by omega), wr_u32 (n := a0 * 16777216 + a1 * 65536 + a2 * 256) (by omega) (by omega), wr_u32 (by omega) (by omega)]
  omega
end Go.Proofs.YtipmkjfbdflneaaDoor.AM
