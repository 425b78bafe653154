/-
  DERIVED. GIVEN WITH THE SEED: THE CARDS: each row of YtpbildnhhafohaaDoorRows.lean that lists a variable, with what it lists TIED to the program's text (the seventh form; the later family's looks); each row that meets fmt, with fmt's text TOLD by the authors' own Lean function (tested against real Go, not proved from fmt's source: count such statements apart). THE CARD IS WHAT COUNTS. Prove the row's statement (the work); the ties are given (YtpbildnhhafohaaDoorTie.lean); close each card by the builder's one call (the guide's Derived/Test/ToyasCard.lean, 'card_holds'). Laid BY PROGRAM, IN A SANDBOX (cutbox-door.mjs). By AI agents, Wed Nov 11 2026. No macro, syntax, notation, axiom, sorry.
-/
import Derived.Test.YtpbildnhhafohaaDoorRows
import GoSem.ClaimSeven
namespace Go.Proofs.YtpbildnhhafohaaDoor
namespace Rows

/-- THE TIED CARD OF 'spigotlaw05.ShaSums'. -/
def shaSumsCard : Claim7 := { stood := { row := shaSumsRow, standIns := [], harness := (true, "939a20a8964c58551d10b9f64fc19ca608e8ae21bb6cae8ef58fb6cf06c0db2f"), looks := false }, kinds := [], alts := [], laidByText := true, laidKinds := [.data, .data], laidTests := true, laidLooks := .later }
def ShaSumsCardSaid : Prop := Claim7.holds Tryd.pinned (.plain (OpenSpec.ofChange shaSumsSpec)) shaSumsCard

/-- THE TIED CARD OF 'spigotlaw05.ShaWrites'. -/
def shaWritesCard : Claim7 := { stood := { row := shaWritesRow, standIns := [], harness := (true, "939a20a8964c58551d10b9f64fc19ca608e8ae21bb6cae8ef58fb6cf06c0db2f"), looks := false }, kinds := [], alts := [], laidByText := true, laidKinds := [.data, .data], laidTests := true, laidLooks := .later }
def ShaWritesCardSaid : Prop := Claim7.holds Tryd.pinned (.plain (OpenSpec.ofChange shaWritesSpec)) shaWritesCard

/-- THE TIED CARD OF 'spigotlaw05.ShaBlocks'. -/
def shaBlocksCard : Claim7 := { stood := { row := shaBlocksRow, standIns := [], harness := (true, "939a20a8964c58551d10b9f64fc19ca608e8ae21bb6cae8ef58fb6cf06c0db2f"), looks := false }, kinds := [], alts := [], laidByText := true, laidKinds := [.data, .data], laidTests := true, laidLooks := .later }
def ShaBlocksCardSaid : Prop := Claim7.holds Tryd.pinned (.plain (OpenSpec.ofChange shaBlocksSpec)) shaBlocksCard

/-- THE TIED CARD OF 'spigotlaw05.ShaParts'. -/
def shaPartsCard : Claim7 := { stood := { row := shaPartsRow, standIns := [], harness := (true, "939a20a8964c58551d10b9f64fc19ca608e8ae21bb6cae8ef58fb6cf06c0db2f"), looks := false }, kinds := [], alts := [], laidByText := true, laidKinds := [.data, .data], laidTests := true, laidLooks := .later }
def ShaPartsCardSaid : Prop := Claim7.holds Tryd.pinned (.plain (OpenSpec.ofChange shaPartsSpec)) shaPartsCard

/-- THE TIED CARD OF 'spigotlaw05.ShaNames'. -/
def shaNamesCard : Claim7 := { stood := { row := shaNamesRow, standIns := [], harness := (true, "939a20a8964c58551d10b9f64fc19ca608e8ae21bb6cae8ef58fb6cf06c0db2f"), looks := false }, kinds := [], alts := [], laidByText := true, laidKinds := [.data, .data], laidTests := true, laidLooks := .later }
def ShaNamesCardSaid : Prop := Claim7.holds Tryd.pinned (.plain (OpenSpec.ofChange shaNamesSpec)) shaNamesCard

/-- THE TIED CARD OF 'spigotlaw05.ShaOn'. -/
def shaOnCard : Claim7 := { stood := { row := shaOnRow, standIns := [], harness := (true, "939a20a8964c58551d10b9f64fc19ca608e8ae21bb6cae8ef58fb6cf06c0db2f"), looks := false }, kinds := [], alts := [], laidByText := true, laidKinds := [.data, .data], laidTests := true, laidLooks := .later }
def ShaOnCardSaid : Prop := Claim7.holds Tryd.pinned (.plain (OpenSpec.ofChange shaOnSpec)) shaOnCard

/-- THE TIED CARD OF 'spigotlaw06.MacSums'. -/
def macSumsCard : Claim7 := { stood := { row := macSumsRow, standIns := [], harness := (true, "939a20a8964c58551d10b9f64fc19ca608e8ae21bb6cae8ef58fb6cf06c0db2f"), looks := false }, kinds := [], alts := [], laidByText := true, laidKinds := [.data, .data], laidTests := true, laidLooks := .later }
def MacSumsCardSaid : Prop := Claim7.holds Tryd.pinned (.plain (OpenSpec.ofChange macSumsSpec)) macSumsCard

/-- THE TIED CARD OF 'spigotlaw06.MacMade'. -/
def macMadeCard : Claim7 := { stood := { row := macMadeRow, standIns := [], harness := (true, "939a20a8964c58551d10b9f64fc19ca608e8ae21bb6cae8ef58fb6cf06c0db2f"), looks := false }, kinds := [], alts := [], laidByText := true, laidKinds := [.data, .data], laidTests := true, laidLooks := .later }
def MacMadeCardSaid : Prop := Claim7.holds Tryd.pinned (.plain (OpenSpec.ofChange macMadeSpec)) macMadeCard

/-- THE TIED CARD OF 'spigotlaw06.MacKeys'. -/
def macKeysCard : Claim7 := { stood := { row := macKeysRow, standIns := [], harness := (true, "939a20a8964c58551d10b9f64fc19ca608e8ae21bb6cae8ef58fb6cf06c0db2f"), looks := false }, kinds := [], alts := [], laidByText := true, laidKinds := [.data, .data], laidTests := true, laidLooks := .later }
def MacKeysCardSaid : Prop := Claim7.holds Tryd.pinned (.plain (OpenSpec.ofChange macKeysSpec)) macKeysCard

/-- THE TIED CARD OF 'spigotlaw06.MacLooks'. -/
def macLooksCard : Claim7 := { stood := { row := macLooksRow, standIns := [], harness := (true, "939a20a8964c58551d10b9f64fc19ca608e8ae21bb6cae8ef58fb6cf06c0db2f"), looks := false }, kinds := [], alts := [], laidByText := true, laidKinds := [.data, .data], laidTests := true, laidLooks := .later }
def MacLooksCardSaid : Prop := Claim7.holds Tryd.pinned (.plain (OpenSpec.ofChange macLooksSpec)) macLooksCard

/-- THE TIED CARD OF 'spigotlaw06.MacNames'. -/
def macNamesCard : Claim7 := { stood := { row := macNamesRow, standIns := [], harness := (true, "939a20a8964c58551d10b9f64fc19ca608e8ae21bb6cae8ef58fb6cf06c0db2f"), looks := false }, kinds := [], alts := [], laidByText := true, laidKinds := [.data, .data], laidTests := true, laidLooks := .later }
def MacNamesCardSaid : Prop := Claim7.holds Tryd.pinned (.plain (OpenSpec.ofChange macNamesSpec)) macNamesCard

/-- THE SECOND FORM's CARD OF 'spigotlaw05.ShaSums'. -/
def shaSumsUptoCard : Claim7 := { stood := { row := shaSumsUptoRow, standIns := [], harness := (true, "939a20a8964c58551d10b9f64fc19ca608e8ae21bb6cae8ef58fb6cf06c0db2f"), looks := false }, kinds := [], alts := [], laidByText := true, laidKinds := [.data, .data], laidTests := true, laidLooks := .later }
def ShaSumsUptoCardSaid : Prop := Claim7.holds Tryd.pinned (.plain (OpenSpec.upto shaSumsSpec)) shaSumsUptoCard

/-- THE SECOND FORM's CARD OF 'spigotlaw05.ShaWrites'. -/
def shaWritesUptoCard : Claim7 := { stood := { row := shaWritesUptoRow, standIns := [], harness := (true, "939a20a8964c58551d10b9f64fc19ca608e8ae21bb6cae8ef58fb6cf06c0db2f"), looks := false }, kinds := [], alts := [], laidByText := true, laidKinds := [.data, .data], laidTests := true, laidLooks := .later }
def ShaWritesUptoCardSaid : Prop := Claim7.holds Tryd.pinned (.plain (OpenSpec.upto shaWritesSpec)) shaWritesUptoCard

/-- THE SECOND FORM's CARD OF 'spigotlaw05.ShaBlocks'. -/
def shaBlocksUptoCard : Claim7 := { stood := { row := shaBlocksUptoRow, standIns := [], harness := (true, "939a20a8964c58551d10b9f64fc19ca608e8ae21bb6cae8ef58fb6cf06c0db2f"), looks := false }, kinds := [], alts := [], laidByText := true, laidKinds := [.data, .data], laidTests := true, laidLooks := .later }
def ShaBlocksUptoCardSaid : Prop := Claim7.holds Tryd.pinned (.plain (OpenSpec.upto shaBlocksSpec)) shaBlocksUptoCard

/-- THE SECOND FORM's CARD OF 'spigotlaw05.ShaParts'. -/
def shaPartsUptoCard : Claim7 := { stood := { row := shaPartsUptoRow, standIns := [], harness := (true, "939a20a8964c58551d10b9f64fc19ca608e8ae21bb6cae8ef58fb6cf06c0db2f"), looks := false }, kinds := [], alts := [], laidByText := true, laidKinds := [.data, .data], laidTests := true, laidLooks := .later }
def ShaPartsUptoCardSaid : Prop := Claim7.holds Tryd.pinned (.plain (OpenSpec.upto shaPartsSpec)) shaPartsUptoCard

/-- THE SECOND FORM's CARD OF 'spigotlaw05.ShaNames'. -/
def shaNamesUptoCard : Claim7 := { stood := { row := shaNamesUptoRow, standIns := [], harness := (true, "939a20a8964c58551d10b9f64fc19ca608e8ae21bb6cae8ef58fb6cf06c0db2f"), looks := false }, kinds := [], alts := [], laidByText := true, laidKinds := [.data, .data], laidTests := true, laidLooks := .later }
def ShaNamesUptoCardSaid : Prop := Claim7.holds Tryd.pinned (.plain (OpenSpec.upto shaNamesSpec)) shaNamesUptoCard

/-- THE SECOND FORM's CARD OF 'spigotlaw05.ShaOn'. -/
def shaOnUptoCard : Claim7 := { stood := { row := shaOnUptoRow, standIns := [], harness := (true, "939a20a8964c58551d10b9f64fc19ca608e8ae21bb6cae8ef58fb6cf06c0db2f"), looks := false }, kinds := [], alts := [], laidByText := true, laidKinds := [.data, .data], laidTests := true, laidLooks := .later }
def ShaOnUptoCardSaid : Prop := Claim7.holds Tryd.pinned (.plain (OpenSpec.upto shaOnSpec)) shaOnUptoCard

/-- THE SECOND FORM's CARD OF 'spigotlaw06.MacSums'. -/
def macSumsUptoCard : Claim7 := { stood := { row := macSumsUptoRow, standIns := [], harness := (true, "939a20a8964c58551d10b9f64fc19ca608e8ae21bb6cae8ef58fb6cf06c0db2f"), looks := false }, kinds := [], alts := [], laidByText := true, laidKinds := [.data, .data], laidTests := true, laidLooks := .later }
def MacSumsUptoCardSaid : Prop := Claim7.holds Tryd.pinned (.plain (OpenSpec.upto macSumsSpec)) macSumsUptoCard

/-- THE SECOND FORM's CARD OF 'spigotlaw06.MacMade'. -/
def macMadeUptoCard : Claim7 := { stood := { row := macMadeUptoRow, standIns := [], harness := (true, "939a20a8964c58551d10b9f64fc19ca608e8ae21bb6cae8ef58fb6cf06c0db2f"), looks := false }, kinds := [], alts := [], laidByText := true, laidKinds := [.data, .data], laidTests := true, laidLooks := .later }
def MacMadeUptoCardSaid : Prop := Claim7.holds Tryd.pinned (.plain (OpenSpec.upto macMadeSpec)) macMadeUptoCard

/-- THE SECOND FORM's CARD OF 'spigotlaw06.MacKeys'. -/
def macKeysUptoCard : Claim7 := { stood := { row := macKeysUptoRow, standIns := [], harness := (true, "939a20a8964c58551d10b9f64fc19ca608e8ae21bb6cae8ef58fb6cf06c0db2f"), looks := false }, kinds := [], alts := [], laidByText := true, laidKinds := [.data, .data], laidTests := true, laidLooks := .later }
def MacKeysUptoCardSaid : Prop := Claim7.holds Tryd.pinned (.plain (OpenSpec.upto macKeysSpec)) macKeysUptoCard

/-- THE SECOND FORM's CARD OF 'spigotlaw06.MacLooks'. -/
def macLooksUptoCard : Claim7 := { stood := { row := macLooksUptoRow, standIns := [], harness := (true, "939a20a8964c58551d10b9f64fc19ca608e8ae21bb6cae8ef58fb6cf06c0db2f"), looks := false }, kinds := [], alts := [], laidByText := true, laidKinds := [.data, .data], laidTests := true, laidLooks := .later }
def MacLooksUptoCardSaid : Prop := Claim7.holds Tryd.pinned (.plain (OpenSpec.upto macLooksSpec)) macLooksUptoCard

/-- THE SECOND FORM's CARD OF 'spigotlaw06.MacNames'. -/
def macNamesUptoCard : Claim7 := { stood := { row := macNamesUptoRow, standIns := [], harness := (true, "939a20a8964c58551d10b9f64fc19ca608e8ae21bb6cae8ef58fb6cf06c0db2f"), looks := false }, kinds := [], alts := [], laidByText := true, laidKinds := [.data, .data], laidTests := true, laidLooks := .later }
def MacNamesUptoCardSaid : Prop := Claim7.holds Tryd.pinned (.plain (OpenSpec.upto macNamesSpec)) macNamesUptoCard
end Rows
end Go.Proofs.YtpbildnhhafohaaDoor
