/-
  NARROWER THAN 'FOR EVERY INPUT', by the rows' own cells (each row's printed sentence says how): SpaceNobody: laid · SpaceNeeds: laid · FsckTexts: laid · KvNobody: laid.
  DERIVED. THE GIVEN ROWS OF THIS SEAT. 4 by the template 'for every input the law returns true; each argument reads behind the call as it read before'; 0 by the template 'total and deterministic' (their statements: YtcjpiceklicmoaaGreatDoorTotals.lean).
  GIVEN WITH THE SEED: the statements are not yours to turn. If you find one false, say at which input.
  Laid BY PROGRAM, IN A SANDBOX (cutbox-rows.mjs): the forced cells as the released guide's own fill.sh prints them over the translation 3522c9d196ae314d… (all of the seat's roots in one cut). By AI agents, Wed Nov 11 2026. No macro, syntax, notation, axiom, sorry.
-/
import Derived.Test.YtcjpiceklicmoaaGreatDoorChecked
import GoSem.PinnedTables
import GoSem.Claim
import GoSem.ClaimJoined
import GoSem.ClaimMapViews
import Derived.JoinedTies
import Derived.KernelRfl
namespace Go.Proofs.YtcjpiceklicmoaaGreatDoor
/- THE CELL 'sum', in the pinned program and in every row, IS THE sha256 OF THE DUMP (.gsa) THAT YtcjpiceklicmoaaGreatDoorProg.lean LOADS. Nothing in Lean hashes anything: it is a label: what it is worth is what the hold of that sum in a sandbox is worth. -/
noncomputable def Tryz.pinned : Pinned := { name := "ytcjpiceklicmoaagreatdoor", sum := "3522c9d196ae314d84bbe67f3e67394a164d5c3918af0d458bf3a753f1634e5f", checked := Tryz.checked }
namespace Rows
def none {H : Type} : Left H := { results := [], args := [] }

/- WHAT THE LISTED PACKAGE-LEVEL VARIABLES READ AS WHEN THE CALL BEGINS. Each datum BY PROGRAM (the guide's laid-datum.mjs) off the statement by which the dump's own 'gosem.cut.vars' lays the variable. In a bare row this is a premise. The card (YtcjpiceklicmoaaGreatDoorCards.lean) ties it to the program's text. -/
def laid_unicode_utf8_acceptRanges {H : Type} : DataW H := .agg [.agg [.lit (.int .u8 128), .lit (.int .u8 191)], .agg [.lit (.int .u8 160), .lit (.int .u8 191)], .agg [.lit (.int .u8 128), .lit (.int .u8 159)], .agg [.lit (.int .u8 144), .lit (.int .u8 191)], .agg [.lit (.int .u8 128), .lit (.int .u8 143)], .agg [.lit (.int .u8 0), .lit (.int .u8 0)], .agg [.lit (.int .u8 0), .lit (.int .u8 0)], .agg [.lit (.int .u8 0), .lit (.int .u8 0)], .agg [.lit (.int .u8 0), .lit (.int .u8 0)], .agg [.lit (.int .u8 0), .lit (.int .u8 0)], .agg [.lit (.int .u8 0), .lit (.int .u8 0)], .agg [.lit (.int .u8 0), .lit (.int .u8 0)], .agg [.lit (.int .u8 0), .lit (.int .u8 0)], .agg [.lit (.int .u8 0), .lit (.int .u8 0)], .agg [.lit (.int .u8 0), .lit (.int .u8 0)], .agg [.lit (.int .u8 0), .lit (.int .u8 0)]]
/-- One of Go's own tables, pinned by name: the form's constant. -/
def laid_unicode_utf8_first : DataW Unit := Go.Pinned.utf8First

/-- 'saddlebaglaw36.SpaceNobody': WHATEVER THE INPUT: true; the input reads as it did. -/
def spaceNobodySpec : ChangeSpec := { name := "spaceNobody", fn := fun _ => fun
  | [d1, d2] => { results := [.lit (.bool true)], args := [d1, d2] }
  | _ => none }
def spaceNobodyRow : OpenClaim := { program := "ytcjpiceklicmoaagreatdoor", sum := "3522c9d196ae314d84bbe67f3e67394a164d5c3918af0d458bf3a753f1634e5f", func := "saddlebag/saddlebaglaw36.SpaceNobody", spec := "spaceNobody", inPlace := ["internal/bytealg.abigen_runtime_cmpstring", "sync/atomic.AddInt64"], unfollowed := true, recurses := true, named := ["unicode/utf8.first", "unicode/utf8.acceptRanges"], apart := false, laid := [("unicode/utf8.acceptRanges", laid_unicode_utf8_acceptRanges), ("unicode/utf8.first", laid_unicode_utf8_first)] }
def SpaceNobodySaid : Prop := spaceNobodyRow.holds Tryz.pinned (OpenSpec.ofChange spaceNobodySpec)

/-- ITS FALSE NEIGHBOUR: 'it returns false'. Refute it at one input. -/
def spaceNobodyWrong : ChangeSpec := { name := "spaceNobody", fn := fun _ => fun
  | [d1, d2] => { results := [.lit (.bool false)], args := [d1, d2] }
  | _ => none }
def SpaceNobodyWrongFalsely : Prop := spaceNobodyRow.holds Tryz.pinned (OpenSpec.ofChange spaceNobodyWrong)

/-- 'saddlebaglaw36.SpaceNeeds': WHATEVER THE INPUT: true; the input reads as it did. -/
def spaceNeedsSpec : ChangeSpec := { name := "spaceNeeds", fn := fun _ => fun
  | [d1, d2, d3] => { results := [.lit (.bool true)], args := [d1, d2, d3] }
  | _ => none }
def spaceNeedsRow : OpenClaim := { program := "ytcjpiceklicmoaagreatdoor", sum := "3522c9d196ae314d84bbe67f3e67394a164d5c3918af0d458bf3a753f1634e5f", func := "saddlebag/saddlebaglaw36.SpaceNeeds", spec := "spaceNeeds", inPlace := ["sync/atomic.AddInt64", "internal/bytealg.abigen_runtime_cmpstring"], unfollowed := true, recurses := true, named := ["unicode/utf8.first", "unicode/utf8.acceptRanges"], apart := false, laid := [("unicode/utf8.acceptRanges", laid_unicode_utf8_acceptRanges), ("unicode/utf8.first", laid_unicode_utf8_first)] }
def SpaceNeedsSaid : Prop := spaceNeedsRow.holds Tryz.pinned (OpenSpec.ofChange spaceNeedsSpec)

/-- ITS FALSE NEIGHBOUR: 'it returns false'. Refute it at one input. -/
def spaceNeedsWrong : ChangeSpec := { name := "spaceNeeds", fn := fun _ => fun
  | [d1, d2, d3] => { results := [.lit (.bool false)], args := [d1, d2, d3] }
  | _ => none }
def SpaceNeedsWrongFalsely : Prop := spaceNeedsRow.holds Tryz.pinned (OpenSpec.ofChange spaceNeedsWrong)

/-- 'saddlebaglaw37.FsckTexts': WHATEVER THE INPUT: true; the input reads as it did. -/
def fsckTextsSpec : ChangeSpec := { name := "fsckTexts", fn := fun _ => fun
  | [d] => { results := [.lit (.bool true)], args := [d] }
  | _ => none }
def fsckTextsRow : OpenClaim := { program := "ytcjpiceklicmoaagreatdoor", sum := "3522c9d196ae314d84bbe67f3e67394a164d5c3918af0d458bf3a753f1634e5f", func := "saddlebag/saddlebaglaw37.FsckTexts", spec := "fsckTexts", inPlace := ["internal/abi.NoEscape", "internal/bytealg.MakeNoZero", "sync/atomic.AddInt64", "sync/atomic.LoadInt64", "sync/atomic.StoreInt64", "internal/bytealg.abigen_runtime_cmpstring"], unfollowed := true, recurses := true, named := ["unicode/utf8.first", "unicode/utf8.acceptRanges"], apart := false, laid := [("unicode/utf8.acceptRanges", laid_unicode_utf8_acceptRanges), ("unicode/utf8.first", laid_unicode_utf8_first)] }
def FsckTextsSaid : Prop := fsckTextsRow.holds Tryz.pinned (OpenSpec.ofChange fsckTextsSpec)

/-- ITS FALSE NEIGHBOUR: 'it returns false'. Refute it at one input. -/
def fsckTextsWrong : ChangeSpec := { name := "fsckTexts", fn := fun _ => fun
  | [d] => { results := [.lit (.bool false)], args := [d] }
  | _ => none }
def FsckTextsWrongFalsely : Prop := fsckTextsRow.holds Tryz.pinned (OpenSpec.ofChange fsckTextsWrong)

/-- 'saddlebaglaw13.KvNobody': WHATEVER THE INPUT: true; the input reads as it did. -/
def kvNobodySpec : ChangeSpec := { name := "kvNobody", fn := fun _ => fun
  | [d1, d2] => { results := [.lit (.bool true)], args := [d1, d2] }
  | _ => none }
def kvNobodyRow : OpenClaim := { program := "ytcjpiceklicmoaagreatdoor", sum := "3522c9d196ae314d84bbe67f3e67394a164d5c3918af0d458bf3a753f1634e5f", func := "saddlebag/saddlebaglaw13.KvNobody", spec := "kvNobody", inPlace := ["internal/bytealg.abigen_runtime_cmpstring", "sync/atomic.AddInt64", "slices.overlaps[saddlebag/leaf.Entry]", "slices.overlaps[saddlebag/kv.page]", "maps.clone"], unfollowed := true, recurses := true, named := ["unicode/utf8.first", "unicode/utf8.acceptRanges"], apart := false, laid := [("unicode/utf8.acceptRanges", laid_unicode_utf8_acceptRanges), ("unicode/utf8.first", laid_unicode_utf8_first)] }
def KvNobodySaid : Prop := kvNobodyRow.holds Tryz.pinned (OpenSpec.ofChange kvNobodySpec)

/-- ITS FALSE NEIGHBOUR: 'it returns false'. Refute it at one input. -/
def kvNobodyWrong : ChangeSpec := { name := "kvNobody", fn := fun _ => fun
  | [d1, d2] => { results := [.lit (.bool false)], args := [d1, d2] }
  | _ => none }
def KvNobodyWrongFalsely : Prop := kvNobodyRow.holds Tryz.pinned (OpenSpec.ofChange kvNobodyWrong)

/- THE SECOND FORM. 'bulk': how many values and letters a reading holds, each counted each time it is reached (what is shared counts as often as it is met; a slice's spare places count too). A statement '..UptoSaid' is the law's where the arguments, and the package variables that the reading takes, are together of bulk at most 1048576: NARROWER than '..Said'. Prove '..Said' where nothing that the law and all that it calls make is longer than what came in: it says more and counts as full. Else prove '..UptoSaid'. A law counts once. -/
mutual
def uptoBulk {H : Type} : DataW H → Nat
  | .lit (.string bytes) => bytes.length + 1
  | .lit _ => 1
  | .nil => 1
  | .ptr d => uptoBulk d + 1
  | .slice elems spare => uptoBulkAll elems + uptoBulkAll spare + 1
  | .agg parts => uptoBulkAll parts + 1
  | .iface _ d => uptoBulk d + 1
  | .map entries => uptoBulkEntries entries + 1
  | .held _ => 1
def uptoBulkAll {H : Type} : List (DataW H) → Nat
  | [] => 0
  | d :: r => uptoBulk d + uptoBulkAll r
def uptoBulkEntries {H : Type} : List (Lit × DataW H) → Nat
  | [] => 0
  | x :: r => uptoBulkEntry x + uptoBulkEntries r
def uptoBulkEntry {H : Type} : Lit × DataW H → Nat
  | (.string bytes, d) => bytes.length + uptoBulk d + 1
  | (_, d) => uptoBulk d + 1
 end
def uptoSmall : (H : Type) → List (DataW H) → Bool := fun _ ds => decide (uptoBulkAll ds ≤ 1048576)
def OpenSpec.upto (s : _root_.Go.ChangeSpec) : _root_.Go.OpenSpec := { _root_.Go.OpenSpec.ofChange s with cond := some uptoSmall }

/-- 'saddlebaglaw36.SpaceNobody', WHERE WHAT IT READS IS OF BULK AT MOST 1048576: true; the input reads as it did. -/
def spaceNobodyUptoRow : OpenClaim := { program := "ytcjpiceklicmoaagreatdoor", sum := "3522c9d196ae314d84bbe67f3e67394a164d5c3918af0d458bf3a753f1634e5f", func := "saddlebag/saddlebaglaw36.SpaceNobody", spec := "spaceNobody", inPlace := ["internal/bytealg.abigen_runtime_cmpstring", "sync/atomic.AddInt64"], unfollowed := true, recurses := true, named := ["unicode/utf8.first", "unicode/utf8.acceptRanges"], apart := false, laid := [("unicode/utf8.acceptRanges", laid_unicode_utf8_acceptRanges), ("unicode/utf8.first", laid_unicode_utf8_first)], narrowed := true }
def SpaceNobodyUptoSaid : Prop := spaceNobodyUptoRow.holds Tryz.pinned (OpenSpec.upto spaceNobodySpec)

/-- 'saddlebaglaw36.SpaceNeeds', WHERE WHAT IT READS IS OF BULK AT MOST 1048576: true; the input reads as it did. -/
def spaceNeedsUptoRow : OpenClaim := { program := "ytcjpiceklicmoaagreatdoor", sum := "3522c9d196ae314d84bbe67f3e67394a164d5c3918af0d458bf3a753f1634e5f", func := "saddlebag/saddlebaglaw36.SpaceNeeds", spec := "spaceNeeds", inPlace := ["sync/atomic.AddInt64", "internal/bytealg.abigen_runtime_cmpstring"], unfollowed := true, recurses := true, named := ["unicode/utf8.first", "unicode/utf8.acceptRanges"], apart := false, laid := [("unicode/utf8.acceptRanges", laid_unicode_utf8_acceptRanges), ("unicode/utf8.first", laid_unicode_utf8_first)], narrowed := true }
def SpaceNeedsUptoSaid : Prop := spaceNeedsUptoRow.holds Tryz.pinned (OpenSpec.upto spaceNeedsSpec)

/-- 'saddlebaglaw37.FsckTexts', WHERE WHAT IT READS IS OF BULK AT MOST 1048576: true; the input reads as it did. -/
def fsckTextsUptoRow : OpenClaim := { program := "ytcjpiceklicmoaagreatdoor", sum := "3522c9d196ae314d84bbe67f3e67394a164d5c3918af0d458bf3a753f1634e5f", func := "saddlebag/saddlebaglaw37.FsckTexts", spec := "fsckTexts", inPlace := ["internal/abi.NoEscape", "internal/bytealg.MakeNoZero", "sync/atomic.AddInt64", "sync/atomic.LoadInt64", "sync/atomic.StoreInt64", "internal/bytealg.abigen_runtime_cmpstring"], unfollowed := true, recurses := true, named := ["unicode/utf8.first", "unicode/utf8.acceptRanges"], apart := false, laid := [("unicode/utf8.acceptRanges", laid_unicode_utf8_acceptRanges), ("unicode/utf8.first", laid_unicode_utf8_first)], narrowed := true }
def FsckTextsUptoSaid : Prop := fsckTextsUptoRow.holds Tryz.pinned (OpenSpec.upto fsckTextsSpec)

/-- 'saddlebaglaw13.KvNobody', WHERE WHAT IT READS IS OF BULK AT MOST 1048576: true; the input reads as it did. -/
def kvNobodyUptoRow : OpenClaim := { program := "ytcjpiceklicmoaagreatdoor", sum := "3522c9d196ae314d84bbe67f3e67394a164d5c3918af0d458bf3a753f1634e5f", func := "saddlebag/saddlebaglaw13.KvNobody", spec := "kvNobody", inPlace := ["internal/bytealg.abigen_runtime_cmpstring", "sync/atomic.AddInt64", "slices.overlaps[saddlebag/leaf.Entry]", "slices.overlaps[saddlebag/kv.page]", "maps.clone"], unfollowed := true, recurses := true, named := ["unicode/utf8.first", "unicode/utf8.acceptRanges"], apart := false, laid := [("unicode/utf8.acceptRanges", laid_unicode_utf8_acceptRanges), ("unicode/utf8.first", laid_unicode_utf8_first)], narrowed := true }
def KvNobodyUptoSaid : Prop := kvNobodyUptoRow.holds Tryz.pinned (OpenSpec.upto kvNobodySpec)

end Rows
end Go.Proofs.YtcjpiceklicmoaaGreatDoor
