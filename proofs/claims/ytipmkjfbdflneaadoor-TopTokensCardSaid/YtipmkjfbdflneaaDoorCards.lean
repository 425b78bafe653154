/-
  DERIVED. GIVEN WITH THE SEED: THE CARDS: each row of YtipmkjfbdflneaaDoorRows.lean that lists a variable, with what it lists TIED to the program's text (the seventh form; the later family's looks); each row that meets fmt, with fmt's text TOLD by the authors' own Lean function (tested against real Go, not proved from fmt's source: count such statements apart). THE CARD IS WHAT COUNTS. Prove the row's statement (the work); the ties are given (YtipmkjfbdflneaaDoorTie.lean); close each card by the builder's one call (the guide's Derived/Test/ToyasCard.lean, 'card_holds'). Laid BY PROGRAM, IN A SANDBOX (cutbox-door.mjs). By AI agents, Wed Nov 11 2026. No macro, syntax, notation, axiom, sorry.
-/
import Derived.Test.YtipmkjfbdflneaaDoorRows
import GoSem.ClaimSeven
namespace Go.Proofs.YtipmkjfbdflneaaDoor
namespace Rows

/-- THE TIED CARD OF 'spigottop.TopTokens'. -/
def topTokensCard : Claim7 := { stood := { row := topTokensRow, standIns := [], harness := (true, "923fefe681e527c9b22d22cd1035641c16280cb1f2061361d45f32aa691e0de2"), looks := false }, kinds := [], alts := [], laidByText := true, laidKinds := [.data, .data], laidTests := true, laidLooks := .later }
def TopTokensCardSaid : Prop := Claim7.holds Tryd.pinned (.plain (OpenSpec.ofChange topTokensSpec)) topTokensCard

/-- THE TIED CARD OF 'spigotlaw12.IdealReal'. -/
def idealRealCard : Claim7 := { stood := { row := idealRealRow, standIns := [], harness := (true, "923fefe681e527c9b22d22cd1035641c16280cb1f2061361d45f32aa691e0de2"), looks := false }, kinds := [], alts := [], laidByText := true, laidKinds := [.data, .data], laidTests := true, laidLooks := .later }
def IdealRealCardSaid : Prop := Claim7.holds Tryd.pinned (.plain (OpenSpec.ofChange idealRealSpec)) idealRealCard

/-- THE SECOND FORM's CARD OF 'spigottop.TopTokens'. -/
def topTokensUptoCard : Claim7 := { stood := { row := topTokensUptoRow, standIns := [], harness := (true, "923fefe681e527c9b22d22cd1035641c16280cb1f2061361d45f32aa691e0de2"), looks := false }, kinds := [], alts := [], laidByText := true, laidKinds := [.data, .data], laidTests := true, laidLooks := .later }
def TopTokensUptoCardSaid : Prop := Claim7.holds Tryd.pinned (.plain (OpenSpec.upto topTokensSpec)) topTokensUptoCard

/-- THE SECOND FORM's CARD OF 'spigotlaw12.IdealReal'. -/
def idealRealUptoCard : Claim7 := { stood := { row := idealRealUptoRow, standIns := [], harness := (true, "923fefe681e527c9b22d22cd1035641c16280cb1f2061361d45f32aa691e0de2"), looks := false }, kinds := [], alts := [], laidByText := true, laidKinds := [.data, .data], laidTests := true, laidLooks := .later }
def IdealRealUptoCardSaid : Prop := Claim7.holds Tryd.pinned (.plain (OpenSpec.upto idealRealSpec)) idealRealUptoCard
end Rows
end Go.Proofs.YtipmkjfbdflneaaDoor
