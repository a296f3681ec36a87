/-
  DERIVED. GIVEN WITH THE SEED: THE CARDS: each row of YtgbkodiepdmppaaGreatDoorRows.lean that lists a variable, with what it lists TIED to the program's text (the seventh form; the later family's looks); each row that meets fmt, with fmt's text TOLD by the authors' own Lean function (tested against real Go, not proved from fmt's source: count such statements apart). THE CARD IS WHAT COUNTS. Prove the row's statement (the work); the ties are given (YtgbkodiepdmppaaGreatDoorTie.lean); close each card by the builder's one call (the guide's Derived/Test/ToyasCard.lean, 'card_holds'). Laid BY PROGRAM, IN A SANDBOX (cutbox-door.mjs). By AI agents, Wed Nov 11 2026. No macro, syntax, notation, axiom, sorry.
-/
import Derived.Test.YtgbkodiepdmppaaGreatDoorRows
import GoSem.ClaimSeven
namespace Go.Proofs.YtgbkodiepdmppaaGreatDoor
namespace Rows

/-- THE TIED CARD OF 'saddlebaglaw10.JournalNobody'. -/
def journalNobodyCard : Claim7 := { stood := { row := journalNobodyRow, standIns := [], harness := (true, "1ba75bdbaea1904a2497da700c98dd21f2d9ab409d6aeda2be7aa17686223633"), looks := false }, kinds := [], alts := [], laidByText := true, laidKinds := [.data, .pinned], laidTests := true, laidLooks := .later }
def JournalNobodyCardSaid : Prop := Claim7.holds Tryz.pinned (.plain (OpenSpec.ofChange journalNobodySpec)) journalNobodyCard

/-- THE TIED CARD OF 'saddlebaglaw10.JournalForged'. -/
def journalForgedCard : Claim7 := { stood := { row := journalForgedRow, standIns := [], harness := (true, "1ba75bdbaea1904a2497da700c98dd21f2d9ab409d6aeda2be7aa17686223633"), looks := false }, kinds := [], alts := [], laidByText := true, laidKinds := [.data, .pinned], laidTests := true, laidLooks := .later }
def JournalForgedCardSaid : Prop := Claim7.holds Tryz.pinned (.plain (OpenSpec.ofChange journalForgedSpec)) journalForgedCard

/-- THE TIED CARD OF 'saddlebaglaw10.JournalFalls'. -/
def journalFallsCard : Claim7 := { stood := { row := journalFallsRow, standIns := [], harness := (true, "1ba75bdbaea1904a2497da700c98dd21f2d9ab409d6aeda2be7aa17686223633"), looks := false }, kinds := [], alts := [], laidByText := true, laidKinds := [.data, .pinned], laidTests := true, laidLooks := .later }
def JournalFallsCardSaid : Prop := Claim7.holds Tryz.pinned (.plain (OpenSpec.ofChange journalFallsSpec)) journalFallsCard

/-- THE TIED CARD OF 'saddlebaglaw10.JournalBytes'. -/
def journalBytesCard : Claim7 := { stood := { row := journalBytesRow, standIns := [], harness := (true, "1ba75bdbaea1904a2497da700c98dd21f2d9ab409d6aeda2be7aa17686223633"), looks := false }, kinds := [], alts := [], laidByText := true, laidKinds := [.data, .pinned], laidTests := true, laidLooks := .later }
def JournalBytesCardSaid : Prop := Claim7.holds Tryz.pinned (.plain (OpenSpec.ofChange journalBytesSpec)) journalBytesCard

/-- THE SECOND FORM's CARD OF 'saddlebaglaw10.JournalNobody'. -/
def journalNobodyUptoCard : Claim7 := { stood := { row := journalNobodyUptoRow, standIns := [], harness := (true, "1ba75bdbaea1904a2497da700c98dd21f2d9ab409d6aeda2be7aa17686223633"), looks := false }, kinds := [], alts := [], laidByText := true, laidKinds := [.data, .pinned], laidTests := true, laidLooks := .later }
def JournalNobodyUptoCardSaid : Prop := Claim7.holds Tryz.pinned (.plain (OpenSpec.upto journalNobodySpec)) journalNobodyUptoCard

/-- THE SECOND FORM's CARD OF 'saddlebaglaw10.JournalForged'. -/
def journalForgedUptoCard : Claim7 := { stood := { row := journalForgedUptoRow, standIns := [], harness := (true, "1ba75bdbaea1904a2497da700c98dd21f2d9ab409d6aeda2be7aa17686223633"), looks := false }, kinds := [], alts := [], laidByText := true, laidKinds := [.data, .pinned], laidTests := true, laidLooks := .later }
def JournalForgedUptoCardSaid : Prop := Claim7.holds Tryz.pinned (.plain (OpenSpec.upto journalForgedSpec)) journalForgedUptoCard

/-- THE SECOND FORM's CARD OF 'saddlebaglaw10.JournalFalls'. -/
def journalFallsUptoCard : Claim7 := { stood := { row := journalFallsUptoRow, standIns := [], harness := (true, "1ba75bdbaea1904a2497da700c98dd21f2d9ab409d6aeda2be7aa17686223633"), looks := false }, kinds := [], alts := [], laidByText := true, laidKinds := [.data, .pinned], laidTests := true, laidLooks := .later }
def JournalFallsUptoCardSaid : Prop := Claim7.holds Tryz.pinned (.plain (OpenSpec.upto journalFallsSpec)) journalFallsUptoCard

/-- THE SECOND FORM's CARD OF 'saddlebaglaw10.JournalBytes'. -/
def journalBytesUptoCard : Claim7 := { stood := { row := journalBytesUptoRow, standIns := [], harness := (true, "1ba75bdbaea1904a2497da700c98dd21f2d9ab409d6aeda2be7aa17686223633"), looks := false }, kinds := [], alts := [], laidByText := true, laidKinds := [.data, .pinned], laidTests := true, laidLooks := .later }
def JournalBytesUptoCardSaid : Prop := Claim7.holds Tryz.pinned (.plain (OpenSpec.upto journalBytesSpec)) journalBytesUptoCard
end Rows
end Go.Proofs.YtgbkodiepdmppaaGreatDoor
