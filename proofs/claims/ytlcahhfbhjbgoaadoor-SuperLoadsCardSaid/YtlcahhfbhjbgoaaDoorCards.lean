/-
  DERIVED. GIVEN WITH THE SEED: THE CARDS: each row of YtlcahhfbhjbgoaaDoorRows.lean that lists a variable, with what it lists TIED to the program's text (the seventh form; the later family's looks); each row that meets fmt, with fmt's text TOLD by the authors' own Lean function (tested against real Go, not proved from fmt's source: count such statements apart). THE CARD IS WHAT COUNTS. Prove the row's statement (the work); the ties are given (YtlcahhfbhjbgoaaDoorTie.lean); close each card by the builder's one call (the guide's Derived/Test/ToyasCard.lean, 'card_holds'). Laid BY PROGRAM, IN A SANDBOX (cutbox-door.mjs). By AI agents, Wed Nov 11 2026. No macro, syntax, notation, axiom, sorry.
-/
import Derived.Test.YtlcahhfbhjbgoaaDoorRows
import GoSem.ClaimSeven
namespace Go.Proofs.YtlcahhfbhjbgoaaDoor
namespace Rows

/-- THE TIED CARD OF 'saddlebaglaw08.MarkSeals'. -/
def markSealsCard : Claim7 := { stood := { row := markSealsRow, standIns := [], harness := (true, "904efdbf6ee53cd16f80cdc849dba8dc17a091c535683de49e8590f3ad404c2f"), looks := false }, kinds := [], alts := [], laidByText := true, laidKinds := [.data, .pinned], laidTests := true, laidLooks := .later }
def MarkSealsCardSaid : Prop := Claim7.holds Tryd.pinned (.plain (OpenSpec.ofChange markSealsSpec)) markSealsCard

/-- THE TIED CARD OF 'saddlebaglaw08.MarkBack'. -/
def markBackCard : Claim7 := { stood := { row := markBackRow, standIns := [], harness := (true, "904efdbf6ee53cd16f80cdc849dba8dc17a091c535683de49e8590f3ad404c2f"), looks := false }, kinds := [], alts := [], laidByText := true, laidKinds := [.data, .pinned], laidTests := true, laidLooks := .later }
def MarkBackCardSaid : Prop := Claim7.holds Tryd.pinned (.plain (OpenSpec.ofChange markBackSpec)) markBackCard

/-- THE TIED CARD OF 'saddlebaglaw08.MarkOpens'. -/
def markOpensCard : Claim7 := { stood := { row := markOpensRow, standIns := [], harness := (true, "904efdbf6ee53cd16f80cdc849dba8dc17a091c535683de49e8590f3ad404c2f"), looks := false }, kinds := [], alts := [], laidByText := true, laidKinds := [.data, .pinned], laidTests := true, laidLooks := .later }
def MarkOpensCardSaid : Prop := Claim7.holds Tryd.pinned (.plain (OpenSpec.ofChange markOpensSpec)) markOpensCard

/-- THE TIED CARD OF 'saddlebaglaw08.MarkTorn'. -/
def markTornCard : Claim7 := { stood := { row := markTornRow, standIns := [], harness := (true, "904efdbf6ee53cd16f80cdc849dba8dc17a091c535683de49e8590f3ad404c2f"), looks := false }, kinds := [], alts := [], laidByText := true, laidKinds := [.data, .pinned], laidTests := true, laidLooks := .later }
def MarkTornCardSaid : Prop := Claim7.holds Tryd.pinned (.plain (OpenSpec.ofChange markTornSpec)) markTornCard

/-- THE TIED CARD OF 'saddlebaglaw09.SuperLoads'. -/
def superLoadsCard : Claim7 := { stood := { row := superLoadsRow, standIns := [], harness := (true, "904efdbf6ee53cd16f80cdc849dba8dc17a091c535683de49e8590f3ad404c2f"), looks := false }, kinds := [], alts := [], laidByText := true, laidKinds := [.data, .pinned], laidTests := true, laidLooks := .later }
def SuperLoadsCardSaid : Prop := Claim7.holds Tryd.pinned (.plain (OpenSpec.ofChange superLoadsSpec)) superLoadsCard

/-- THE SECOND FORM's CARD OF 'saddlebaglaw08.MarkSeals'. -/
def markSealsUptoCard : Claim7 := { stood := { row := markSealsUptoRow, standIns := [], harness := (true, "904efdbf6ee53cd16f80cdc849dba8dc17a091c535683de49e8590f3ad404c2f"), looks := false }, kinds := [], alts := [], laidByText := true, laidKinds := [.data, .pinned], laidTests := true, laidLooks := .later }
def MarkSealsUptoCardSaid : Prop := Claim7.holds Tryd.pinned (.plain (OpenSpec.upto markSealsSpec)) markSealsUptoCard

/-- THE SECOND FORM's CARD OF 'saddlebaglaw08.MarkBack'. -/
def markBackUptoCard : Claim7 := { stood := { row := markBackUptoRow, standIns := [], harness := (true, "904efdbf6ee53cd16f80cdc849dba8dc17a091c535683de49e8590f3ad404c2f"), looks := false }, kinds := [], alts := [], laidByText := true, laidKinds := [.data, .pinned], laidTests := true, laidLooks := .later }
def MarkBackUptoCardSaid : Prop := Claim7.holds Tryd.pinned (.plain (OpenSpec.upto markBackSpec)) markBackUptoCard

/-- THE SECOND FORM's CARD OF 'saddlebaglaw08.MarkOpens'. -/
def markOpensUptoCard : Claim7 := { stood := { row := markOpensUptoRow, standIns := [], harness := (true, "904efdbf6ee53cd16f80cdc849dba8dc17a091c535683de49e8590f3ad404c2f"), looks := false }, kinds := [], alts := [], laidByText := true, laidKinds := [.data, .pinned], laidTests := true, laidLooks := .later }
def MarkOpensUptoCardSaid : Prop := Claim7.holds Tryd.pinned (.plain (OpenSpec.upto markOpensSpec)) markOpensUptoCard

/-- THE SECOND FORM's CARD OF 'saddlebaglaw08.MarkTorn'. -/
def markTornUptoCard : Claim7 := { stood := { row := markTornUptoRow, standIns := [], harness := (true, "904efdbf6ee53cd16f80cdc849dba8dc17a091c535683de49e8590f3ad404c2f"), looks := false }, kinds := [], alts := [], laidByText := true, laidKinds := [.data, .pinned], laidTests := true, laidLooks := .later }
def MarkTornUptoCardSaid : Prop := Claim7.holds Tryd.pinned (.plain (OpenSpec.upto markTornSpec)) markTornUptoCard

/-- THE SECOND FORM's CARD OF 'saddlebaglaw09.SuperLoads'. -/
def superLoadsUptoCard : Claim7 := { stood := { row := superLoadsUptoRow, standIns := [], harness := (true, "904efdbf6ee53cd16f80cdc849dba8dc17a091c535683de49e8590f3ad404c2f"), looks := false }, kinds := [], alts := [], laidByText := true, laidKinds := [.data, .pinned], laidTests := true, laidLooks := .later }
def SuperLoadsUptoCardSaid : Prop := Claim7.holds Tryd.pinned (.plain (OpenSpec.upto superLoadsSpec)) superLoadsUptoCard
end Rows
end Go.Proofs.YtlcahhfbhjbgoaaDoor
