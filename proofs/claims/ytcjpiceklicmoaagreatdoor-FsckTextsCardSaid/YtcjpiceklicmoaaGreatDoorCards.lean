/-
  DERIVED. GIVEN WITH THE SEED: THE CARDS: each row of YtcjpiceklicmoaaGreatDoorRows.lean that lists a variable, with what it lists TIED to the program's text (the seventh form; the later family's looks); each row that meets fmt, with fmt's text TOLD by the authors' own Lean function (tested against real Go, not proved from fmt's source: count such statements apart). THE CARD IS WHAT COUNTS. Prove the row's statement (the work); the ties are given (YtcjpiceklicmoaaGreatDoorTie.lean); close each card by the builder's one call (the guide's Derived/Test/ToyasCard.lean, 'card_holds'). Laid BY PROGRAM, IN A SANDBOX (cutbox-door.mjs). By AI agents, Wed Nov 11 2026. No macro, syntax, notation, axiom, sorry.
-/
import Derived.Test.YtcjpiceklicmoaaGreatDoorRows
import GoSem.ClaimSeven
namespace Go.Proofs.YtcjpiceklicmoaaGreatDoor
namespace Rows

/-- THE TIED CARD OF 'saddlebaglaw36.SpaceNobody'. -/
def spaceNobodyCard : Claim7 := { stood := { row := spaceNobodyRow, standIns := [], harness := (true, "6a222b0612cab509fea7733f2cc63177f90f644de4aae7a91dbf0398258fb082"), looks := true }, kinds := [], alts := [], laidByText := true, laidKinds := [.data, .pinned], laidTests := true, laidLooks := .later }
def SpaceNobodyCardSaid : Prop := Claim7.holds Tryz.pinned (.plain (OpenSpec.ofChange spaceNobodySpec)) spaceNobodyCard

/-- THE TIED CARD OF 'saddlebaglaw36.SpaceNeeds'. -/
def spaceNeedsCard : Claim7 := { stood := { row := spaceNeedsRow, standIns := [], harness := (true, "6a222b0612cab509fea7733f2cc63177f90f644de4aae7a91dbf0398258fb082"), looks := true }, kinds := [], alts := [], laidByText := true, laidKinds := [.data, .pinned], laidTests := true, laidLooks := .later }
def SpaceNeedsCardSaid : Prop := Claim7.holds Tryz.pinned (.plain (OpenSpec.ofChange spaceNeedsSpec)) spaceNeedsCard

/-- THE TIED CARD OF 'saddlebaglaw37.FsckTexts'. -/
def fsckTextsCard : Claim7 := { stood := { row := fsckTextsRow, standIns := [], harness := (true, "6a222b0612cab509fea7733f2cc63177f90f644de4aae7a91dbf0398258fb082"), looks := true }, kinds := [], alts := [], laidByText := true, laidKinds := [.data, .pinned], laidTests := true, laidLooks := .later }
def FsckTextsCardSaid : Prop := Claim7.holds Tryz.pinned (.plain (OpenSpec.ofChange fsckTextsSpec)) fsckTextsCard

/-- THE TIED CARD OF 'saddlebaglaw13.KvNobody'. -/
def kvNobodyCard : Claim7 := { stood := { row := kvNobodyRow, standIns := [], harness := (true, "6a222b0612cab509fea7733f2cc63177f90f644de4aae7a91dbf0398258fb082"), looks := true }, kinds := [], alts := [], laidByText := true, laidKinds := [.data, .pinned], laidTests := true, laidLooks := .later }
def KvNobodyCardSaid : Prop := Claim7.holds Tryz.pinned (.plain (OpenSpec.ofChange kvNobodySpec)) kvNobodyCard

/-- THE SECOND FORM's CARD OF 'saddlebaglaw36.SpaceNobody'. -/
def spaceNobodyUptoCard : Claim7 := { stood := { row := spaceNobodyUptoRow, standIns := [], harness := (true, "6a222b0612cab509fea7733f2cc63177f90f644de4aae7a91dbf0398258fb082"), looks := true }, kinds := [], alts := [], laidByText := true, laidKinds := [.data, .pinned], laidTests := true, laidLooks := .later }
def SpaceNobodyUptoCardSaid : Prop := Claim7.holds Tryz.pinned (.plain (OpenSpec.upto spaceNobodySpec)) spaceNobodyUptoCard

/-- THE SECOND FORM's CARD OF 'saddlebaglaw36.SpaceNeeds'. -/
def spaceNeedsUptoCard : Claim7 := { stood := { row := spaceNeedsUptoRow, standIns := [], harness := (true, "6a222b0612cab509fea7733f2cc63177f90f644de4aae7a91dbf0398258fb082"), looks := true }, kinds := [], alts := [], laidByText := true, laidKinds := [.data, .pinned], laidTests := true, laidLooks := .later }
def SpaceNeedsUptoCardSaid : Prop := Claim7.holds Tryz.pinned (.plain (OpenSpec.upto spaceNeedsSpec)) spaceNeedsUptoCard

/-- THE SECOND FORM's CARD OF 'saddlebaglaw37.FsckTexts'. -/
def fsckTextsUptoCard : Claim7 := { stood := { row := fsckTextsUptoRow, standIns := [], harness := (true, "6a222b0612cab509fea7733f2cc63177f90f644de4aae7a91dbf0398258fb082"), looks := true }, kinds := [], alts := [], laidByText := true, laidKinds := [.data, .pinned], laidTests := true, laidLooks := .later }
def FsckTextsUptoCardSaid : Prop := Claim7.holds Tryz.pinned (.plain (OpenSpec.upto fsckTextsSpec)) fsckTextsUptoCard

/-- THE SECOND FORM's CARD OF 'saddlebaglaw13.KvNobody'. -/
def kvNobodyUptoCard : Claim7 := { stood := { row := kvNobodyUptoRow, standIns := [], harness := (true, "6a222b0612cab509fea7733f2cc63177f90f644de4aae7a91dbf0398258fb082"), looks := true }, kinds := [], alts := [], laidByText := true, laidKinds := [.data, .pinned], laidTests := true, laidLooks := .later }
def KvNobodyUptoCardSaid : Prop := Claim7.holds Tryz.pinned (.plain (OpenSpec.upto kvNobodySpec)) kvNobodyUptoCard
end Rows
end Go.Proofs.YtcjpiceklicmoaaGreatDoor
