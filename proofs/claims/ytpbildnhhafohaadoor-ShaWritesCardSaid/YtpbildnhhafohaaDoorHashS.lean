/- Hashes, as the statements hand them over, are plain data. -/
import Derived.Test.YtpbildnhhafohaaDoorShaS
import Derived.Test.YtpbildnhhafohaaDoorAm31
namespace Go.Proofs.YtpbildnhhafohaaDoor.AM
open Go Go.Proofs
theorem hash_of {xs : List AV} (h : FS.isL [.pl (.arr 8 (.int .u32)), .sl (.int .u8), .pl (.int .i64)] xs) : ∃ h : Hs, .st xs = hsv h ∧ byt h.r ∧ h.r.length ≤ maxLen := by
  match xs, h with
  | [_, _, _], ⟨⟨y0, rfl, a0, b0, c0⟩, ⟨l, rfl, h1, h2⟩, ⟨y2, rfl, a2, b2, c2⟩, _⟩ =>
    obtain ⟨v, rfl⟩ := v8_of a0 b0 c0
    obtain ⟨r, rfl, hr⟩ := bs_of h1
    obtain ⟨n, rfl, _⟩ := int_of a2 c2
    exact ⟨⟨v, r, n⟩, rfl, hr, by simpa using h2⟩
end Go.Proofs.YtpbildnhhafohaaDoor.AM
