/-
  DERIVED. GIVEN WITH THE SEED: THE CARDS: each row of YtdjknikkiojfhaaDoorRows.lean that lists a variable, with what it lists TIED to the program's text (the seventh form; the later family's looks); each row that meets fmt, with fmt's text TOLD by the authors' own Lean function (tested against real Go, not proved from fmt's source: count such statements apart). THE CARD IS WHAT COUNTS. Prove the row's statement (the work); the ties are given (YtdjknikkiojfhaaDoorTie.lean); close each card by the builder's one call (the guide's Derived/Test/ToyasCard.lean, 'card_holds'). Laid BY PROGRAM, IN A SANDBOX (cutbox-door.mjs). By AI agents, Wed Nov 11 2026. No macro, syntax, notation, axiom, sorry.
-/
import Derived.Test.YtdjknikkiojfhaaDoorRows
import GoSem.ClaimSeven
namespace Go.Proofs.YtdjknikkiojfhaaDoor
namespace Rows

/-- THE TIED CARD OF 'hearsaylaw06.MessagePacks'. -/
def messagePacksCard : Claim7 := { stood := { row := messagePacksRow, standIns := [], harness := (true, "22ac25c5067123fde545e6d59ae813d34a516acbf5822c2ea4b4ce9b85a44386"), looks := true }, kinds := [], alts := [], laidByText := true, laidKinds := [.data], laidTests := true, laidLooks := .later }
def MessagePacksCardSaid : Prop := Claim7.holds Tryd.pinned (.plain (OpenSpec.ofChange messagePacksSpec)) messagePacksCard

/-- THE TIED CARD OF 'hearsaylaw06.MessageBack'. -/
def messageBackCard : Claim7 := { stood := { row := messageBackRow, standIns := [], harness := (true, "22ac25c5067123fde545e6d59ae813d34a516acbf5822c2ea4b4ce9b85a44386"), looks := true }, kinds := [], alts := [], laidByText := true, laidKinds := [.data], laidTests := true, laidLooks := .later }
def MessageBackCardSaid : Prop := Claim7.holds Tryd.pinned (.plain (OpenSpec.ofChange messageBackSpec)) messageBackCard

/-- THE TIED CARD OF 'hearsaylaw06.MessageAgain'. -/
def messageAgainCard : Claim7 := { stood := { row := messageAgainRow, standIns := [], harness := (true, "22ac25c5067123fde545e6d59ae813d34a516acbf5822c2ea4b4ce9b85a44386"), looks := true }, kinds := [], alts := [], laidByText := true, laidKinds := [.data], laidTests := true, laidLooks := .later }
def MessageAgainCardSaid : Prop := Claim7.holds Tryd.pinned (.plain (OpenSpec.ofChange messageAgainSpec)) messageAgainCard

/-- THE TIED CARD OF 'hearsaylaw06.MessageSize'. -/
def messageSizeCard : Claim7 := { stood := { row := messageSizeRow, standIns := [], harness := (true, "22ac25c5067123fde545e6d59ae813d34a516acbf5822c2ea4b4ce9b85a44386"), looks := true }, kinds := [], alts := [], laidByText := true, laidKinds := [.data], laidTests := true, laidLooks := .later }
def MessageSizeCardSaid : Prop := Claim7.holds Tryd.pinned (.plain (OpenSpec.ofChange messageSizeSpec)) messageSizeCard

/-- THE SECOND FORM's CARD OF 'hearsaylaw06.MessagePacks'. -/
def messagePacksUptoCard : Claim7 := { stood := { row := messagePacksUptoRow, standIns := [], harness := (true, "22ac25c5067123fde545e6d59ae813d34a516acbf5822c2ea4b4ce9b85a44386"), looks := true }, kinds := [], alts := [], laidByText := true, laidKinds := [.data], laidTests := true, laidLooks := .later }
def MessagePacksUptoCardSaid : Prop := Claim7.holds Tryd.pinned (.plain (OpenSpec.upto messagePacksSpec)) messagePacksUptoCard

/-- THE SECOND FORM's CARD OF 'hearsaylaw06.MessageBack'. -/
def messageBackUptoCard : Claim7 := { stood := { row := messageBackUptoRow, standIns := [], harness := (true, "22ac25c5067123fde545e6d59ae813d34a516acbf5822c2ea4b4ce9b85a44386"), looks := true }, kinds := [], alts := [], laidByText := true, laidKinds := [.data], laidTests := true, laidLooks := .later }
def MessageBackUptoCardSaid : Prop := Claim7.holds Tryd.pinned (.plain (OpenSpec.upto messageBackSpec)) messageBackUptoCard

/-- THE SECOND FORM's CARD OF 'hearsaylaw06.MessageAgain'. -/
def messageAgainUptoCard : Claim7 := { stood := { row := messageAgainUptoRow, standIns := [], harness := (true, "22ac25c5067123fde545e6d59ae813d34a516acbf5822c2ea4b4ce9b85a44386"), looks := true }, kinds := [], alts := [], laidByText := true, laidKinds := [.data], laidTests := true, laidLooks := .later }
def MessageAgainUptoCardSaid : Prop := Claim7.holds Tryd.pinned (.plain (OpenSpec.upto messageAgainSpec)) messageAgainUptoCard

/-- THE SECOND FORM's CARD OF 'hearsaylaw06.MessageSize'. -/
def messageSizeUptoCard : Claim7 := { stood := { row := messageSizeUptoRow, standIns := [], harness := (true, "22ac25c5067123fde545e6d59ae813d34a516acbf5822c2ea4b4ce9b85a44386"), looks := true }, kinds := [], alts := [], laidByText := true, laidKinds := [.data], laidTests := true, laidLooks := .later }
def MessageSizeUptoCardSaid : Prop := Claim7.holds Tryd.pinned (.plain (OpenSpec.upto messageSizeSpec)) messageSizeUptoCard
end Rows
end Go.Proofs.YtdjknikkiojfhaaDoor
