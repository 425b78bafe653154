/-
  DERIVED. GIVEN WITH THE SEED: THE CARDS: each row of YtkcnchlahhlkfaaDoorRows.lean that lists a variable, with what it lists TIED to the program's text (the seventh form; the later family's looks); each row that meets fmt, with fmt's text TOLD by the authors' own Lean function (tested against real Go, not proved from fmt's source: count such statements apart). THE CARD IS WHAT COUNTS. Prove the row's statement (the work); the ties are given (YtkcnchlahhlkfaaDoorTie.lean); close each card by the builder's one call (the guide's Derived/Test/ToyasCard.lean, 'card_holds'). Laid BY PROGRAM, IN A SANDBOX (cutbox-door.mjs). By AI agents, Wed Nov 11 2026. No macro, syntax, notation, axiom, sorry.
-/
import Derived.Test.YtkcnchlahhlkfaaDoorRows
import GoSem.ClaimSeven
namespace Go.Proofs.YtkcnchlahhlkfaaDoor
namespace Rows

/-- THE TIED CARD OF 'spigottop.TopTokens'. -/
def topTokensCard : Claim7 := { stood := { row := topTokensRow, standIns := [], harness := (true, "a99d1926e4e057a68d19a74cce3c4c9b1a2e70d12843a07caa8b908b3f32f67c"), looks := false }, kinds := [], alts := [], laidByText := true, laidKinds := [.data, .data], laidTests := true, laidLooks := .later }
def TopTokensCardSaid : Prop := Claim7.holds Tryd.pinned (.plain (OpenSpec.ofChange topTokensSpec)) topTokensCard

/-- THE TIED CARD OF 'spigotlaw11.KeysMakes'. -/
def keysMakesCard : Claim7 := { stood := { row := keysMakesRow, standIns := [], harness := (true, "a99d1926e4e057a68d19a74cce3c4c9b1a2e70d12843a07caa8b908b3f32f67c"), looks := false }, kinds := [], alts := [], laidByText := true, laidKinds := [.data, .data], laidTests := true, laidLooks := .later }
def KeysMakesCardSaid : Prop := Claim7.holds Tryd.pinned (.plain (OpenSpec.ofChange keysMakesSpec)) keysMakesCard

/-- THE TIED CARD OF 'spigotlaw08.TokenMints'. -/
def tokenMintsCard : Claim7 := { stood := { row := tokenMintsRow, standIns := [], harness := (true, "a99d1926e4e057a68d19a74cce3c4c9b1a2e70d12843a07caa8b908b3f32f67c"), looks := false }, kinds := [], alts := [], laidByText := true, laidKinds := [.data, .data], laidTests := true, laidLooks := .later }
def TokenMintsCardSaid : Prop := Claim7.holds Tryd.pinned (.plain (OpenSpec.ofChange tokenMintsSpec)) tokenMintsCard

/-- THE TIED CARD OF 'spigotlaw08.TokenTrue'. -/
def tokenTrueCard : Claim7 := { stood := { row := tokenTrueRow, standIns := [], harness := (true, "a99d1926e4e057a68d19a74cce3c4c9b1a2e70d12843a07caa8b908b3f32f67c"), looks := false }, kinds := [], alts := [], laidByText := true, laidKinds := [.data, .data], laidTests := true, laidLooks := .later }
def TokenTrueCardSaid : Prop := Claim7.holds Tryd.pinned (.plain (OpenSpec.ofChange tokenTrueSpec)) tokenTrueCard

/-- THE TIED CARD OF 'spigotlaw08.TokenOther'. -/
def tokenOtherCard : Claim7 := { stood := { row := tokenOtherRow, standIns := [], harness := (true, "a99d1926e4e057a68d19a74cce3c4c9b1a2e70d12843a07caa8b908b3f32f67c"), looks := false }, kinds := [], alts := [], laidByText := true, laidKinds := [.data, .data], laidTests := true, laidLooks := .later }
def TokenOtherCardSaid : Prop := Claim7.holds Tryd.pinned (.plain (OpenSpec.ofChange tokenOtherSpec)) tokenOtherCard

/-- THE TIED CARD OF 'spigotlaw08.TokenLate'. -/
def tokenLateCard : Claim7 := { stood := { row := tokenLateRow, standIns := [], harness := (true, "a99d1926e4e057a68d19a74cce3c4c9b1a2e70d12843a07caa8b908b3f32f67c"), looks := false }, kinds := [], alts := [], laidByText := true, laidKinds := [.data, .data], laidTests := true, laidLooks := .later }
def TokenLateCardSaid : Prop := Claim7.holds Tryd.pinned (.plain (OpenSpec.ofChange tokenLateSpec)) tokenLateCard

/-- THE TIED CARD OF 'spigotlaw08.TokenNames'. -/
def tokenNamesCard : Claim7 := { stood := { row := tokenNamesRow, standIns := [], harness := (true, "a99d1926e4e057a68d19a74cce3c4c9b1a2e70d12843a07caa8b908b3f32f67c"), looks := false }, kinds := [], alts := [], laidByText := true, laidKinds := [.data, .data], laidTests := true, laidLooks := .later }
def TokenNamesCardSaid : Prop := Claim7.holds Tryd.pinned (.plain (OpenSpec.ofChange tokenNamesSpec)) tokenNamesCard

/-- THE TIED CARD OF 'spigotlaw08.TokenBack'. -/
def tokenBackCard : Claim7 := { stood := { row := tokenBackRow, standIns := [], harness := (true, "a99d1926e4e057a68d19a74cce3c4c9b1a2e70d12843a07caa8b908b3f32f67c"), looks := false }, kinds := [], alts := [], laidByText := true, laidKinds := [.data, .data], laidTests := true, laidLooks := .later }
def TokenBackCardSaid : Prop := Claim7.holds Tryd.pinned (.plain (OpenSpec.ofChange tokenBackSpec)) tokenBackCard

/-- THE TIED CARD OF 'spigotlaw11.KeysSigns'. -/
def keysSignsCard : Claim7 := { stood := { row := keysSignsRow, standIns := [], harness := (true, "a99d1926e4e057a68d19a74cce3c4c9b1a2e70d12843a07caa8b908b3f32f67c"), looks := false }, kinds := [], alts := [], laidByText := true, laidKinds := [.data, .data], laidTests := true, laidLooks := .later }
def KeysSignsCardSaid : Prop := Claim7.holds Tryd.pinned (.plain (OpenSpec.ofChange keysSignsSpec)) keysSignsCard

/-- THE TIED CARD OF 'spigotlaw11.KeysNames'. -/
def keysNamesCard : Claim7 := { stood := { row := keysNamesRow, standIns := [], harness := (true, "a99d1926e4e057a68d19a74cce3c4c9b1a2e70d12843a07caa8b908b3f32f67c"), looks := false }, kinds := [], alts := [], laidByText := true, laidKinds := [.data, .data], laidTests := true, laidLooks := .later }
def KeysNamesCardSaid : Prop := Claim7.holds Tryd.pinned (.plain (OpenSpec.ofChange keysNamesSpec)) keysNamesCard

/-- THE TIED CARD OF 'spigotlaw11.KeysMade'. -/
def keysMadeCard : Claim7 := { stood := { row := keysMadeRow, standIns := [], harness := (true, "a99d1926e4e057a68d19a74cce3c4c9b1a2e70d12843a07caa8b908b3f32f67c"), looks := false }, kinds := [], alts := [], laidByText := true, laidKinds := [.data, .data], laidTests := true, laidLooks := .later }
def KeysMadeCardSaid : Prop := Claim7.holds Tryd.pinned (.plain (OpenSpec.ofChange keysMadeSpec)) keysMadeCard

/-- THE TIED CARD OF 'spigotlaw11.KeysRight'. -/
def keysRightCard : Claim7 := { stood := { row := keysRightRow, standIns := [], harness := (true, "a99d1926e4e057a68d19a74cce3c4c9b1a2e70d12843a07caa8b908b3f32f67c"), looks := false }, kinds := [], alts := [], laidByText := true, laidKinds := [.data, .data], laidTests := true, laidLooks := .later }
def KeysRightCardSaid : Prop := Claim7.holds Tryd.pinned (.plain (OpenSpec.ofChange keysRightSpec)) keysRightCard

/-- THE TIED CARD OF 'spigotlaw11.KeysElse'. -/
def keysElseCard : Claim7 := { stood := { row := keysElseRow, standIns := [], harness := (true, "a99d1926e4e057a68d19a74cce3c4c9b1a2e70d12843a07caa8b908b3f32f67c"), looks := false }, kinds := [], alts := [], laidByText := true, laidKinds := [.data, .data], laidTests := true, laidLooks := .later }
def KeysElseCardSaid : Prop := Claim7.holds Tryd.pinned (.plain (OpenSpec.ofChange keysElseSpec)) keysElseCard

/-- THE TIED CARD OF 'spigotlaw12.IdealReal'. -/
def idealRealCard : Claim7 := { stood := { row := idealRealRow, standIns := [], harness := (true, "a99d1926e4e057a68d19a74cce3c4c9b1a2e70d12843a07caa8b908b3f32f67c"), looks := false }, kinds := [], alts := [], laidByText := true, laidKinds := [.data, .data], laidTests := true, laidLooks := .later }
def IdealRealCardSaid : Prop := Claim7.holds Tryd.pinned (.plain (OpenSpec.ofChange idealRealSpec)) idealRealCard

/-- THE SECOND FORM's CARD OF 'spigottop.TopTokens'. -/
def topTokensUptoCard : Claim7 := { stood := { row := topTokensUptoRow, standIns := [], harness := (true, "a99d1926e4e057a68d19a74cce3c4c9b1a2e70d12843a07caa8b908b3f32f67c"), looks := false }, kinds := [], alts := [], laidByText := true, laidKinds := [.data, .data], laidTests := true, laidLooks := .later }
def TopTokensUptoCardSaid : Prop := Claim7.holds Tryd.pinned (.plain (OpenSpec.upto topTokensSpec)) topTokensUptoCard

/-- THE SECOND FORM's CARD OF 'spigotlaw11.KeysMakes'. -/
def keysMakesUptoCard : Claim7 := { stood := { row := keysMakesUptoRow, standIns := [], harness := (true, "a99d1926e4e057a68d19a74cce3c4c9b1a2e70d12843a07caa8b908b3f32f67c"), looks := false }, kinds := [], alts := [], laidByText := true, laidKinds := [.data, .data], laidTests := true, laidLooks := .later }
def KeysMakesUptoCardSaid : Prop := Claim7.holds Tryd.pinned (.plain (OpenSpec.upto keysMakesSpec)) keysMakesUptoCard

/-- THE SECOND FORM's CARD OF 'spigotlaw08.TokenMints'. -/
def tokenMintsUptoCard : Claim7 := { stood := { row := tokenMintsUptoRow, standIns := [], harness := (true, "a99d1926e4e057a68d19a74cce3c4c9b1a2e70d12843a07caa8b908b3f32f67c"), looks := false }, kinds := [], alts := [], laidByText := true, laidKinds := [.data, .data], laidTests := true, laidLooks := .later }
def TokenMintsUptoCardSaid : Prop := Claim7.holds Tryd.pinned (.plain (OpenSpec.upto tokenMintsSpec)) tokenMintsUptoCard

/-- THE SECOND FORM's CARD OF 'spigotlaw08.TokenTrue'. -/
def tokenTrueUptoCard : Claim7 := { stood := { row := tokenTrueUptoRow, standIns := [], harness := (true, "a99d1926e4e057a68d19a74cce3c4c9b1a2e70d12843a07caa8b908b3f32f67c"), looks := false }, kinds := [], alts := [], laidByText := true, laidKinds := [.data, .data], laidTests := true, laidLooks := .later }
def TokenTrueUptoCardSaid : Prop := Claim7.holds Tryd.pinned (.plain (OpenSpec.upto tokenTrueSpec)) tokenTrueUptoCard

/-- THE SECOND FORM's CARD OF 'spigotlaw08.TokenOther'. -/
def tokenOtherUptoCard : Claim7 := { stood := { row := tokenOtherUptoRow, standIns := [], harness := (true, "a99d1926e4e057a68d19a74cce3c4c9b1a2e70d12843a07caa8b908b3f32f67c"), looks := false }, kinds := [], alts := [], laidByText := true, laidKinds := [.data, .data], laidTests := true, laidLooks := .later }
def TokenOtherUptoCardSaid : Prop := Claim7.holds Tryd.pinned (.plain (OpenSpec.upto tokenOtherSpec)) tokenOtherUptoCard

/-- THE SECOND FORM's CARD OF 'spigotlaw08.TokenLate'. -/
def tokenLateUptoCard : Claim7 := { stood := { row := tokenLateUptoRow, standIns := [], harness := (true, "a99d1926e4e057a68d19a74cce3c4c9b1a2e70d12843a07caa8b908b3f32f67c"), looks := false }, kinds := [], alts := [], laidByText := true, laidKinds := [.data, .data], laidTests := true, laidLooks := .later }
def TokenLateUptoCardSaid : Prop := Claim7.holds Tryd.pinned (.plain (OpenSpec.upto tokenLateSpec)) tokenLateUptoCard

/-- THE SECOND FORM's CARD OF 'spigotlaw08.TokenNames'. -/
def tokenNamesUptoCard : Claim7 := { stood := { row := tokenNamesUptoRow, standIns := [], harness := (true, "a99d1926e4e057a68d19a74cce3c4c9b1a2e70d12843a07caa8b908b3f32f67c"), looks := false }, kinds := [], alts := [], laidByText := true, laidKinds := [.data, .data], laidTests := true, laidLooks := .later }
def TokenNamesUptoCardSaid : Prop := Claim7.holds Tryd.pinned (.plain (OpenSpec.upto tokenNamesSpec)) tokenNamesUptoCard

/-- THE SECOND FORM's CARD OF 'spigotlaw08.TokenBack'. -/
def tokenBackUptoCard : Claim7 := { stood := { row := tokenBackUptoRow, standIns := [], harness := (true, "a99d1926e4e057a68d19a74cce3c4c9b1a2e70d12843a07caa8b908b3f32f67c"), looks := false }, kinds := [], alts := [], laidByText := true, laidKinds := [.data, .data], laidTests := true, laidLooks := .later }
def TokenBackUptoCardSaid : Prop := Claim7.holds Tryd.pinned (.plain (OpenSpec.upto tokenBackSpec)) tokenBackUptoCard

/-- THE SECOND FORM's CARD OF 'spigotlaw11.KeysSigns'. -/
def keysSignsUptoCard : Claim7 := { stood := { row := keysSignsUptoRow, standIns := [], harness := (true, "a99d1926e4e057a68d19a74cce3c4c9b1a2e70d12843a07caa8b908b3f32f67c"), looks := false }, kinds := [], alts := [], laidByText := true, laidKinds := [.data, .data], laidTests := true, laidLooks := .later }
def KeysSignsUptoCardSaid : Prop := Claim7.holds Tryd.pinned (.plain (OpenSpec.upto keysSignsSpec)) keysSignsUptoCard

/-- THE SECOND FORM's CARD OF 'spigotlaw11.KeysNames'. -/
def keysNamesUptoCard : Claim7 := { stood := { row := keysNamesUptoRow, standIns := [], harness := (true, "a99d1926e4e057a68d19a74cce3c4c9b1a2e70d12843a07caa8b908b3f32f67c"), looks := false }, kinds := [], alts := [], laidByText := true, laidKinds := [.data, .data], laidTests := true, laidLooks := .later }
def KeysNamesUptoCardSaid : Prop := Claim7.holds Tryd.pinned (.plain (OpenSpec.upto keysNamesSpec)) keysNamesUptoCard

/-- THE SECOND FORM's CARD OF 'spigotlaw11.KeysMade'. -/
def keysMadeUptoCard : Claim7 := { stood := { row := keysMadeUptoRow, standIns := [], harness := (true, "a99d1926e4e057a68d19a74cce3c4c9b1a2e70d12843a07caa8b908b3f32f67c"), looks := false }, kinds := [], alts := [], laidByText := true, laidKinds := [.data, .data], laidTests := true, laidLooks := .later }
def KeysMadeUptoCardSaid : Prop := Claim7.holds Tryd.pinned (.plain (OpenSpec.upto keysMadeSpec)) keysMadeUptoCard

/-- THE SECOND FORM's CARD OF 'spigotlaw11.KeysRight'. -/
def keysRightUptoCard : Claim7 := { stood := { row := keysRightUptoRow, standIns := [], harness := (true, "a99d1926e4e057a68d19a74cce3c4c9b1a2e70d12843a07caa8b908b3f32f67c"), looks := false }, kinds := [], alts := [], laidByText := true, laidKinds := [.data, .data], laidTests := true, laidLooks := .later }
def KeysRightUptoCardSaid : Prop := Claim7.holds Tryd.pinned (.plain (OpenSpec.upto keysRightSpec)) keysRightUptoCard

/-- THE SECOND FORM's CARD OF 'spigotlaw11.KeysElse'. -/
def keysElseUptoCard : Claim7 := { stood := { row := keysElseUptoRow, standIns := [], harness := (true, "a99d1926e4e057a68d19a74cce3c4c9b1a2e70d12843a07caa8b908b3f32f67c"), looks := false }, kinds := [], alts := [], laidByText := true, laidKinds := [.data, .data], laidTests := true, laidLooks := .later }
def KeysElseUptoCardSaid : Prop := Claim7.holds Tryd.pinned (.plain (OpenSpec.upto keysElseSpec)) keysElseUptoCard

/-- THE SECOND FORM's CARD OF 'spigotlaw12.IdealReal'. -/
def idealRealUptoCard : Claim7 := { stood := { row := idealRealUptoRow, standIns := [], harness := (true, "a99d1926e4e057a68d19a74cce3c4c9b1a2e70d12843a07caa8b908b3f32f67c"), looks := false }, kinds := [], alts := [], laidByText := true, laidKinds := [.data, .data], laidTests := true, laidLooks := .later }
def IdealRealUptoCardSaid : Prop := Claim7.holds Tryd.pinned (.plain (OpenSpec.upto idealRealSpec)) idealRealUptoCard
end Rows
end Go.Proofs.YtkcnchlahhlkfaaDoor
