/-
  NARROWER THAN 'FOR EVERY INPUT', by the rows' own cells (each row's printed sentence says how): MarkSeals: laid · MarkBack: laid · MarkOpens: laid · MarkTorn: laid · SuperLoads: laid.
  DERIVED. THE GIVEN ROWS OF THIS SEAT. 5 by the template 'for every input the law returns true; each argument reads behind the call as it read before'; 0 by the template 'total and deterministic' (their statements: YtlcahhfbhjbgoaaDoorTotals.lean).
  GIVEN WITH THE SEED: the statements are not yours to turn. If you find one false, say at which input.
  Laid BY PROGRAM, IN A SANDBOX (cutbox-rows.mjs): the forced cells as the released guide's own fill.sh prints them over the translation 23ffd655527b733f… (all of the seat's roots in one cut). By AI agents, Wed Nov 11 2026. No macro, syntax, notation, axiom, sorry.
-/
import Derived.Test.YtlcahhfbhjbgoaaDoorChecked
import GoSem.PinnedTables
import GoSem.Claim
import GoSem.ClaimJoined
import GoSem.ClaimMapViews
import Derived.JoinedTies
import Derived.KernelRfl
namespace Go.Proofs.YtlcahhfbhjbgoaaDoor
/- THE CELL 'sum', in the pinned program and in every row, IS THE sha256 OF THE DUMP (.gsa) THAT YtlcahhfbhjbgoaaDoorProg.lean LOADS. Nothing in Lean hashes anything: it is a label: what it is worth is what the hold of that sum in a sandbox is worth. -/
noncomputable def Tryd.pinned : Pinned := { name := "ytlcahhfbhjbgoaadoor", sum := "23ffd655527b733f664d5573db1348c0332a2dba579a81704075c65ddde2e4b5", checked := Tryd.checked }
namespace Rows
def none {H : Type} : Left H := { results := [], args := [] }

/- WHAT THE LISTED PACKAGE-LEVEL VARIABLES READ AS WHEN THE CALL BEGINS. Each datum BY PROGRAM (the guide's laid-datum.mjs) off the statement by which the dump's own 'gosem.cut.vars' lays the variable. In a bare row this is a premise. The card (YtlcahhfbhjbgoaaDoorCards.lean) ties it to the program's text. -/
def laid_unicode_utf8_acceptRanges {H : Type} : DataW H := .agg [.agg [.lit (.int .u8 128), .lit (.int .u8 191)], .agg [.lit (.int .u8 160), .lit (.int .u8 191)], .agg [.lit (.int .u8 128), .lit (.int .u8 159)], .agg [.lit (.int .u8 144), .lit (.int .u8 191)], .agg [.lit (.int .u8 128), .lit (.int .u8 143)], .agg [.lit (.int .u8 0), .lit (.int .u8 0)], .agg [.lit (.int .u8 0), .lit (.int .u8 0)], .agg [.lit (.int .u8 0), .lit (.int .u8 0)], .agg [.lit (.int .u8 0), .lit (.int .u8 0)], .agg [.lit (.int .u8 0), .lit (.int .u8 0)], .agg [.lit (.int .u8 0), .lit (.int .u8 0)], .agg [.lit (.int .u8 0), .lit (.int .u8 0)], .agg [.lit (.int .u8 0), .lit (.int .u8 0)], .agg [.lit (.int .u8 0), .lit (.int .u8 0)], .agg [.lit (.int .u8 0), .lit (.int .u8 0)], .agg [.lit (.int .u8 0), .lit (.int .u8 0)]]
/-- One of Go's own tables, pinned by name: the form's constant. -/
def laid_unicode_utf8_first : DataW Unit := Go.Pinned.utf8First

/-- 'saddlebaglaw08.MarkSeals': WHATEVER THE INPUT: true; the input reads as it did. -/
def markSealsSpec : ChangeSpec := { name := "markSeals", fn := fun _ => fun
  | [d1, d2] => { results := [.lit (.bool true)], args := [d1, d2] }
  | _ => none }
def markSealsRow : OpenClaim := { program := "ytlcahhfbhjbgoaadoor", sum := "23ffd655527b733f664d5573db1348c0332a2dba579a81704075c65ddde2e4b5", func := "saddlebag/saddlebaglaw08.MarkSeals", spec := "markSeals", named := ["unicode/utf8.first", "unicode/utf8.acceptRanges"], apart := false, laid := [("unicode/utf8.acceptRanges", laid_unicode_utf8_acceptRanges), ("unicode/utf8.first", laid_unicode_utf8_first)] }
def MarkSealsSaid : Prop := markSealsRow.holds Tryd.pinned (OpenSpec.ofChange markSealsSpec)

/-- ITS FALSE NEIGHBOUR: 'it returns false'. Refute it at one input. -/
def markSealsWrong : ChangeSpec := { name := "markSeals", fn := fun _ => fun
  | [d1, d2] => { results := [.lit (.bool false)], args := [d1, d2] }
  | _ => none }
def MarkSealsWrongFalsely : Prop := markSealsRow.holds Tryd.pinned (OpenSpec.ofChange markSealsWrong)

/-- 'saddlebaglaw08.MarkBack': WHATEVER THE INPUT: true; the input reads as it did. -/
def markBackSpec : ChangeSpec := { name := "markBack", fn := fun _ => fun
  | [d1, d2, d3] => { results := [.lit (.bool true)], args := [d1, d2, d3] }
  | _ => none }
def markBackRow : OpenClaim := { program := "ytlcahhfbhjbgoaadoor", sum := "23ffd655527b733f664d5573db1348c0332a2dba579a81704075c65ddde2e4b5", func := "saddlebag/saddlebaglaw08.MarkBack", spec := "markBack", named := ["unicode/utf8.first", "unicode/utf8.acceptRanges"], apart := false, laid := [("unicode/utf8.acceptRanges", laid_unicode_utf8_acceptRanges), ("unicode/utf8.first", laid_unicode_utf8_first)] }
def MarkBackSaid : Prop := markBackRow.holds Tryd.pinned (OpenSpec.ofChange markBackSpec)

/-- ITS FALSE NEIGHBOUR: 'it returns false'. Refute it at one input. -/
def markBackWrong : ChangeSpec := { name := "markBack", fn := fun _ => fun
  | [d1, d2, d3] => { results := [.lit (.bool false)], args := [d1, d2, d3] }
  | _ => none }
def MarkBackWrongFalsely : Prop := markBackRow.holds Tryd.pinned (OpenSpec.ofChange markBackWrong)

/-- 'saddlebaglaw08.MarkOpens': WHATEVER THE INPUT: true; the input reads as it did. -/
def markOpensSpec : ChangeSpec := { name := "markOpens", fn := fun _ => fun
  | [d1, d2] => { results := [.lit (.bool true)], args := [d1, d2] }
  | _ => none }
def markOpensRow : OpenClaim := { program := "ytlcahhfbhjbgoaadoor", sum := "23ffd655527b733f664d5573db1348c0332a2dba579a81704075c65ddde2e4b5", func := "saddlebag/saddlebaglaw08.MarkOpens", spec := "markOpens", named := ["unicode/utf8.first", "unicode/utf8.acceptRanges"], apart := false, laid := [("unicode/utf8.acceptRanges", laid_unicode_utf8_acceptRanges), ("unicode/utf8.first", laid_unicode_utf8_first)] }
def MarkOpensSaid : Prop := markOpensRow.holds Tryd.pinned (OpenSpec.ofChange markOpensSpec)

/-- ITS FALSE NEIGHBOUR: 'it returns false'. Refute it at one input. -/
def markOpensWrong : ChangeSpec := { name := "markOpens", fn := fun _ => fun
  | [d1, d2] => { results := [.lit (.bool false)], args := [d1, d2] }
  | _ => none }
def MarkOpensWrongFalsely : Prop := markOpensRow.holds Tryd.pinned (OpenSpec.ofChange markOpensWrong)

/-- 'saddlebaglaw08.MarkTorn': WHATEVER THE INPUT: true; the input reads as it did. -/
def markTornSpec : ChangeSpec := { name := "markTorn", fn := fun _ => fun
  | [d1, d2, d3] => { results := [.lit (.bool true)], args := [d1, d2, d3] }
  | _ => none }
def markTornRow : OpenClaim := { program := "ytlcahhfbhjbgoaadoor", sum := "23ffd655527b733f664d5573db1348c0332a2dba579a81704075c65ddde2e4b5", func := "saddlebag/saddlebaglaw08.MarkTorn", spec := "markTorn", named := ["unicode/utf8.first", "unicode/utf8.acceptRanges"], apart := false, laid := [("unicode/utf8.acceptRanges", laid_unicode_utf8_acceptRanges), ("unicode/utf8.first", laid_unicode_utf8_first)] }
def MarkTornSaid : Prop := markTornRow.holds Tryd.pinned (OpenSpec.ofChange markTornSpec)

/-- ITS FALSE NEIGHBOUR: 'it returns false'. Refute it at one input. -/
def markTornWrong : ChangeSpec := { name := "markTorn", fn := fun _ => fun
  | [d1, d2, d3] => { results := [.lit (.bool false)], args := [d1, d2, d3] }
  | _ => none }
def MarkTornWrongFalsely : Prop := markTornRow.holds Tryd.pinned (OpenSpec.ofChange markTornWrong)

/-- 'saddlebaglaw09.SuperLoads': WHATEVER THE INPUT: true; the input reads as it did. -/
def superLoadsSpec : ChangeSpec := { name := "superLoads", fn := fun _ => fun
  | [d1, d2, d3] => { results := [.lit (.bool true)], args := [d1, d2, d3] }
  | _ => none }
def superLoadsRow : OpenClaim := { program := "ytlcahhfbhjbgoaadoor", sum := "23ffd655527b733f664d5573db1348c0332a2dba579a81704075c65ddde2e4b5", func := "saddlebag/saddlebaglaw09.SuperLoads", spec := "superLoads", inPlace := ["sync/atomic.AddInt64"], named := ["unicode/utf8.first", "unicode/utf8.acceptRanges"], apart := false, laid := [("unicode/utf8.acceptRanges", laid_unicode_utf8_acceptRanges), ("unicode/utf8.first", laid_unicode_utf8_first)] }
def SuperLoadsSaid : Prop := superLoadsRow.holds Tryd.pinned (OpenSpec.ofChange superLoadsSpec)

/-- ITS FALSE NEIGHBOUR: 'it returns false'. Refute it at one input. -/
def superLoadsWrong : ChangeSpec := { name := "superLoads", fn := fun _ => fun
  | [d1, d2, d3] => { results := [.lit (.bool false)], args := [d1, d2, d3] }
  | _ => none }
def SuperLoadsWrongFalsely : Prop := superLoadsRow.holds Tryd.pinned (OpenSpec.ofChange superLoadsWrong)

/- THE SECOND FORM. 'bulk': how many values and letters a reading holds, each counted each time it is reached (what is shared counts as often as it is met; a slice's spare places count too). A statement '..UptoSaid' is the law's where the arguments, and the package variables that the reading takes, are together of bulk at most 1048576: NARROWER than '..Said'. Prove '..Said' where nothing that the law and all that it calls make is longer than what came in: it says more and counts as full. Else prove '..UptoSaid'. A law counts once. -/
mutual
def uptoBulk {H : Type} : DataW H → Nat
  | .lit (.string bytes) => bytes.length + 1
  | .lit _ => 1
  | .nil => 1
  | .ptr d => uptoBulk d + 1
  | .slice elems spare => uptoBulkAll elems + uptoBulkAll spare + 1
  | .agg parts => uptoBulkAll parts + 1
  | .iface _ d => uptoBulk d + 1
  | .map entries => uptoBulkEntries entries + 1
  | .held _ => 1
def uptoBulkAll {H : Type} : List (DataW H) → Nat
  | [] => 0
  | d :: r => uptoBulk d + uptoBulkAll r
def uptoBulkEntries {H : Type} : List (Lit × DataW H) → Nat
  | [] => 0
  | x :: r => uptoBulkEntry x + uptoBulkEntries r
def uptoBulkEntry {H : Type} : Lit × DataW H → Nat
  | (.string bytes, d) => bytes.length + uptoBulk d + 1
  | (_, d) => uptoBulk d + 1
 end
def uptoSmall : (H : Type) → List (DataW H) → Bool := fun _ ds => decide (uptoBulkAll ds ≤ 1048576)
def OpenSpec.upto (s : _root_.Go.ChangeSpec) : _root_.Go.OpenSpec := { _root_.Go.OpenSpec.ofChange s with cond := some uptoSmall }

/-- 'saddlebaglaw08.MarkSeals', WHERE WHAT IT READS IS OF BULK AT MOST 1048576: true; the input reads as it did. -/
def markSealsUptoRow : OpenClaim := { program := "ytlcahhfbhjbgoaadoor", sum := "23ffd655527b733f664d5573db1348c0332a2dba579a81704075c65ddde2e4b5", func := "saddlebag/saddlebaglaw08.MarkSeals", spec := "markSeals", named := ["unicode/utf8.first", "unicode/utf8.acceptRanges"], apart := false, laid := [("unicode/utf8.acceptRanges", laid_unicode_utf8_acceptRanges), ("unicode/utf8.first", laid_unicode_utf8_first)], narrowed := true }
def MarkSealsUptoSaid : Prop := markSealsUptoRow.holds Tryd.pinned (OpenSpec.upto markSealsSpec)

/-- 'saddlebaglaw08.MarkBack', WHERE WHAT IT READS IS OF BULK AT MOST 1048576: true; the input reads as it did. -/
def markBackUptoRow : OpenClaim := { program := "ytlcahhfbhjbgoaadoor", sum := "23ffd655527b733f664d5573db1348c0332a2dba579a81704075c65ddde2e4b5", func := "saddlebag/saddlebaglaw08.MarkBack", spec := "markBack", named := ["unicode/utf8.first", "unicode/utf8.acceptRanges"], apart := false, laid := [("unicode/utf8.acceptRanges", laid_unicode_utf8_acceptRanges), ("unicode/utf8.first", laid_unicode_utf8_first)], narrowed := true }
def MarkBackUptoSaid : Prop := markBackUptoRow.holds Tryd.pinned (OpenSpec.upto markBackSpec)

/-- 'saddlebaglaw08.MarkOpens', WHERE WHAT IT READS IS OF BULK AT MOST 1048576: true; the input reads as it did. -/
def markOpensUptoRow : OpenClaim := { program := "ytlcahhfbhjbgoaadoor", sum := "23ffd655527b733f664d5573db1348c0332a2dba579a81704075c65ddde2e4b5", func := "saddlebag/saddlebaglaw08.MarkOpens", spec := "markOpens", named := ["unicode/utf8.first", "unicode/utf8.acceptRanges"], apart := false, laid := [("unicode/utf8.acceptRanges", laid_unicode_utf8_acceptRanges), ("unicode/utf8.first", laid_unicode_utf8_first)], narrowed := true }
def MarkOpensUptoSaid : Prop := markOpensUptoRow.holds Tryd.pinned (OpenSpec.upto markOpensSpec)

/-- 'saddlebaglaw08.MarkTorn', WHERE WHAT IT READS IS OF BULK AT MOST 1048576: true; the input reads as it did. -/
def markTornUptoRow : OpenClaim := { program := "ytlcahhfbhjbgoaadoor", sum := "23ffd655527b733f664d5573db1348c0332a2dba579a81704075c65ddde2e4b5", func := "saddlebag/saddlebaglaw08.MarkTorn", spec := "markTorn", named := ["unicode/utf8.first", "unicode/utf8.acceptRanges"], apart := false, laid := [("unicode/utf8.acceptRanges", laid_unicode_utf8_acceptRanges), ("unicode/utf8.first", laid_unicode_utf8_first)], narrowed := true }
def MarkTornUptoSaid : Prop := markTornUptoRow.holds Tryd.pinned (OpenSpec.upto markTornSpec)

/-- 'saddlebaglaw09.SuperLoads', WHERE WHAT IT READS IS OF BULK AT MOST 1048576: true; the input reads as it did. -/
def superLoadsUptoRow : OpenClaim := { program := "ytlcahhfbhjbgoaadoor", sum := "23ffd655527b733f664d5573db1348c0332a2dba579a81704075c65ddde2e4b5", func := "saddlebag/saddlebaglaw09.SuperLoads", spec := "superLoads", inPlace := ["sync/atomic.AddInt64"], named := ["unicode/utf8.first", "unicode/utf8.acceptRanges"], apart := false, laid := [("unicode/utf8.acceptRanges", laid_unicode_utf8_acceptRanges), ("unicode/utf8.first", laid_unicode_utf8_first)], narrowed := true }
def SuperLoadsUptoSaid : Prop := superLoadsUptoRow.holds Tryd.pinned (OpenSpec.upto superLoadsSpec)

end Rows
end Go.Proofs.YtlcahhfbhjbgoaaDoor
