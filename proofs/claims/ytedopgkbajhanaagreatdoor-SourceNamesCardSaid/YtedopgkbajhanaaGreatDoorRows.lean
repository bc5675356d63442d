/-
  NARROWER THAN 'FOR EVERY INPUT', by the rows' own cells (each row's printed sentence says how): SourceMatchesReference: laid · SourceNames: laid · SourceAnyMatchesReference: laid · SourceSelection: laid · SourceSections: laid · SourceOffsets: laid · SourceIncludes: laid · SourceErrors: laid · SourcePlain: laid · SourceDead: laid.
  DERIVED. THE GIVEN ROWS OF THIS SEAT. 10 by the template 'for every input the law returns true; each argument reads behind the call as it read before'; 0 by the template 'total and deterministic' (their statements: YtedopgkbajhanaaGreatDoorTotals.lean).
  GIVEN WITH THE SEED: the statements are not yours to turn. If you find one false, say at which input.
  Laid BY PROGRAM, IN A SANDBOX (cutbox-rows.mjs): the forced cells as the released guide's own fill.sh prints them over the translation 67110b1407bfde3a… (all of the seat's roots in one cut). By AI agents, Wed Nov 11 2026. No macro, syntax, notation, axiom, sorry.
-/
import Derived.Test.YtedopgkbajhanaaGreatDoorChecked
import GoSem.PinnedTables
import GoSem.Claim
import GoSem.ClaimJoined
import GoSem.ClaimMapViews
import Derived.JoinedTies
import Derived.KernelRfl
namespace Go.Proofs.YtedopgkbajhanaaGreatDoor
/- THE CELL 'sum', in the pinned program and in every row, IS THE sha256 OF THE DUMP (.gsa) THAT YtedopgkbajhanaaGreatDoorProg.lean LOADS. Nothing in Lean hashes anything: it is a label: what it is worth is what the hold of that sum in a sandbox is worth. -/
noncomputable def Tryz.pinned : Pinned := { name := "ytedopgkbajhanaagreatdoor", sum := "67110b1407bfde3a0a5dc018423891ae813445482b3fd361b33d4285a3eaf8b5", checked := Tryz.checked }
namespace Rows
def none {H : Type} : Left H := { results := [], args := [] }

/- WHAT THE LISTED PACKAGE-LEVEL VARIABLES READ AS WHEN THE CALL BEGINS. Each datum BY PROGRAM (the guide's laid-datum.mjs) off the statement by which the dump's own 'gosem.cut.vars' lays the variable. In a bare row this is a premise. The card (YtedopgkbajhanaaGreatDoorCards.lean) ties it to the program's text. -/
def laid_unicode_utf8_acceptRanges {H : Type} : DataW H := .agg [.agg [.lit (.int .u8 128), .lit (.int .u8 191)], .agg [.lit (.int .u8 160), .lit (.int .u8 191)], .agg [.lit (.int .u8 128), .lit (.int .u8 159)], .agg [.lit (.int .u8 144), .lit (.int .u8 191)], .agg [.lit (.int .u8 128), .lit (.int .u8 143)], .agg [.lit (.int .u8 0), .lit (.int .u8 0)], .agg [.lit (.int .u8 0), .lit (.int .u8 0)], .agg [.lit (.int .u8 0), .lit (.int .u8 0)], .agg [.lit (.int .u8 0), .lit (.int .u8 0)], .agg [.lit (.int .u8 0), .lit (.int .u8 0)], .agg [.lit (.int .u8 0), .lit (.int .u8 0)], .agg [.lit (.int .u8 0), .lit (.int .u8 0)], .agg [.lit (.int .u8 0), .lit (.int .u8 0)], .agg [.lit (.int .u8 0), .lit (.int .u8 0)], .agg [.lit (.int .u8 0), .lit (.int .u8 0)], .agg [.lit (.int .u8 0), .lit (.int .u8 0)]]
/-- One of Go's own tables, pinned by name: the form's constant. -/
def laid_unicode_utf8_first : DataW Unit := Go.Pinned.utf8First

/-- 'koinelaw07.SourceMatchesReference': WHATEVER THE INPUT: true; the input reads as it did. -/
def sourceMatchesReferenceSpec : ChangeSpec := { name := "sourceMatchesReference", fn := fun _ => fun
  | [d1, d2, d3] => { results := [.lit (.bool true)], args := [d1, d2, d3] }
  | _ => none }
def sourceMatchesReferenceRow : OpenClaim := { program := "ytedopgkbajhanaagreatdoor", sum := "67110b1407bfde3a0a5dc018423891ae813445482b3fd361b33d4285a3eaf8b5", func := "koine/koinelaw07.SourceMatchesReference", spec := "sourceMatchesReference", inPlace := ["internal/bytealg.IndexByteString", "internal/bytealg.IndexString", "internal/bytealg.CountString", "internal/abi.NoEscape"], unfollowed := true, recurses := true, named := ["unicode/utf8.first", "unicode/utf8.acceptRanges", "internal/bytealg.MaxLen"], plainKeys := false, apart := false, laid := [("unicode/utf8.acceptRanges", laid_unicode_utf8_acceptRanges), ("unicode/utf8.first", laid_unicode_utf8_first)] }
def SourceMatchesReferenceSaid : Prop := sourceMatchesReferenceRow.holds Tryz.pinned (OpenSpec.ofChange sourceMatchesReferenceSpec)

/-- ITS FALSE NEIGHBOUR: 'it returns false'. Refute it at one input. -/
def sourceMatchesReferenceWrong : ChangeSpec := { name := "sourceMatchesReference", fn := fun _ => fun
  | [d1, d2, d3] => { results := [.lit (.bool false)], args := [d1, d2, d3] }
  | _ => none }
def SourceMatchesReferenceWrongFalsely : Prop := sourceMatchesReferenceRow.holds Tryz.pinned (OpenSpec.ofChange sourceMatchesReferenceWrong)

/-- 'koinelaw07.SourceNames': WHATEVER THE INPUT: true; the input reads as it did. -/
def sourceNamesSpec : ChangeSpec := { name := "sourceNames", fn := fun _ => fun
  | [d1, d2, d3] => { results := [.lit (.bool true)], args := [d1, d2, d3] }
  | _ => none }
def sourceNamesRow : OpenClaim := { program := "ytedopgkbajhanaagreatdoor", sum := "67110b1407bfde3a0a5dc018423891ae813445482b3fd361b33d4285a3eaf8b5", func := "koine/koinelaw07.SourceNames", spec := "sourceNames", inPlace := ["internal/bytealg.IndexByteString", "internal/bytealg.IndexString", "internal/bytealg.CountString", "internal/abi.NoEscape"], unfollowed := true, recurses := true, named := ["unicode/utf8.first", "unicode/utf8.acceptRanges", "internal/bytealg.MaxLen"], plainKeys := false, apart := false, laid := [("unicode/utf8.acceptRanges", laid_unicode_utf8_acceptRanges), ("unicode/utf8.first", laid_unicode_utf8_first)] }
def SourceNamesSaid : Prop := sourceNamesRow.holds Tryz.pinned (OpenSpec.ofChange sourceNamesSpec)

/-- ITS FALSE NEIGHBOUR: 'it returns false'. Refute it at one input. -/
def sourceNamesWrong : ChangeSpec := { name := "sourceNames", fn := fun _ => fun
  | [d1, d2, d3] => { results := [.lit (.bool false)], args := [d1, d2, d3] }
  | _ => none }
def SourceNamesWrongFalsely : Prop := sourceNamesRow.holds Tryz.pinned (OpenSpec.ofChange sourceNamesWrong)

/-- 'koinelaw07.SourceAnyMatchesReference': WHATEVER THE INPUT: true; the input reads as it did. -/
def sourceAnyMatchesReferenceSpec : ChangeSpec := { name := "sourceAnyMatchesReference", fn := fun _ => fun
  | [d1, d2, d3] => { results := [.lit (.bool true)], args := [d1, d2, d3] }
  | _ => none }
def sourceAnyMatchesReferenceRow : OpenClaim := { program := "ytedopgkbajhanaagreatdoor", sum := "67110b1407bfde3a0a5dc018423891ae813445482b3fd361b33d4285a3eaf8b5", func := "koine/koinelaw07.SourceAnyMatchesReference", spec := "sourceAnyMatchesReference", inPlace := ["internal/bytealg.IndexByteString", "internal/bytealg.IndexString", "internal/bytealg.CountString", "internal/abi.NoEscape"], unfollowed := true, recurses := true, named := ["unicode/utf8.first", "unicode/utf8.acceptRanges", "internal/bytealg.MaxLen"], plainKeys := false, apart := false, laid := [("unicode/utf8.acceptRanges", laid_unicode_utf8_acceptRanges), ("unicode/utf8.first", laid_unicode_utf8_first)] }
def SourceAnyMatchesReferenceSaid : Prop := sourceAnyMatchesReferenceRow.holds Tryz.pinned (OpenSpec.ofChange sourceAnyMatchesReferenceSpec)

/-- ITS FALSE NEIGHBOUR: 'it returns false'. Refute it at one input. -/
def sourceAnyMatchesReferenceWrong : ChangeSpec := { name := "sourceAnyMatchesReference", fn := fun _ => fun
  | [d1, d2, d3] => { results := [.lit (.bool false)], args := [d1, d2, d3] }
  | _ => none }
def SourceAnyMatchesReferenceWrongFalsely : Prop := sourceAnyMatchesReferenceRow.holds Tryz.pinned (OpenSpec.ofChange sourceAnyMatchesReferenceWrong)

/-- 'koinelaw07.SourceSelection': WHATEVER THE INPUT: true; the input reads as it did. -/
def sourceSelectionSpec : ChangeSpec := { name := "sourceSelection", fn := fun _ => fun
  | [d1, d2, d3] => { results := [.lit (.bool true)], args := [d1, d2, d3] }
  | _ => none }
def sourceSelectionRow : OpenClaim := { program := "ytedopgkbajhanaagreatdoor", sum := "67110b1407bfde3a0a5dc018423891ae813445482b3fd361b33d4285a3eaf8b5", func := "koine/koinelaw07.SourceSelection", spec := "sourceSelection", inPlace := ["internal/bytealg.IndexByteString", "internal/bytealg.IndexString", "internal/bytealg.CountString", "internal/abi.NoEscape"], unfollowed := true, recurses := true, named := ["unicode/utf8.first", "unicode/utf8.acceptRanges", "internal/bytealg.MaxLen"], plainKeys := false, apart := false, laid := [("unicode/utf8.acceptRanges", laid_unicode_utf8_acceptRanges), ("unicode/utf8.first", laid_unicode_utf8_first)] }
def SourceSelectionSaid : Prop := sourceSelectionRow.holds Tryz.pinned (OpenSpec.ofChange sourceSelectionSpec)

/-- ITS FALSE NEIGHBOUR: 'it returns false'. Refute it at one input. -/
def sourceSelectionWrong : ChangeSpec := { name := "sourceSelection", fn := fun _ => fun
  | [d1, d2, d3] => { results := [.lit (.bool false)], args := [d1, d2, d3] }
  | _ => none }
def SourceSelectionWrongFalsely : Prop := sourceSelectionRow.holds Tryz.pinned (OpenSpec.ofChange sourceSelectionWrong)

/-- 'koinelaw07.SourceSections': WHATEVER THE INPUT: true; the input reads as it did. -/
def sourceSectionsSpec : ChangeSpec := { name := "sourceSections", fn := fun _ => fun
  | [d1, d2] => { results := [.lit (.bool true)], args := [d1, d2] }
  | _ => none }
def sourceSectionsRow : OpenClaim := { program := "ytedopgkbajhanaagreatdoor", sum := "67110b1407bfde3a0a5dc018423891ae813445482b3fd361b33d4285a3eaf8b5", func := "koine/koinelaw07.SourceSections", spec := "sourceSections", inPlace := ["internal/bytealg.IndexByteString", "internal/bytealg.IndexString", "internal/bytealg.CountString", "internal/abi.NoEscape"], unfollowed := true, recurses := true, named := ["unicode/utf8.first", "unicode/utf8.acceptRanges", "internal/bytealg.MaxLen"], plainKeys := false, apart := false, laid := [("unicode/utf8.acceptRanges", laid_unicode_utf8_acceptRanges), ("unicode/utf8.first", laid_unicode_utf8_first)] }
def SourceSectionsSaid : Prop := sourceSectionsRow.holds Tryz.pinned (OpenSpec.ofChange sourceSectionsSpec)

/-- ITS FALSE NEIGHBOUR: 'it returns false'. Refute it at one input. -/
def sourceSectionsWrong : ChangeSpec := { name := "sourceSections", fn := fun _ => fun
  | [d1, d2] => { results := [.lit (.bool false)], args := [d1, d2] }
  | _ => none }
def SourceSectionsWrongFalsely : Prop := sourceSectionsRow.holds Tryz.pinned (OpenSpec.ofChange sourceSectionsWrong)

/-- 'koinelaw07.SourceOffsets': WHATEVER THE INPUT: true; the input reads as it did. -/
def sourceOffsetsSpec : ChangeSpec := { name := "sourceOffsets", fn := fun _ => fun
  | [d1, d2, d3] => { results := [.lit (.bool true)], args := [d1, d2, d3] }
  | _ => none }
def sourceOffsetsRow : OpenClaim := { program := "ytedopgkbajhanaagreatdoor", sum := "67110b1407bfde3a0a5dc018423891ae813445482b3fd361b33d4285a3eaf8b5", func := "koine/koinelaw07.SourceOffsets", spec := "sourceOffsets", inPlace := ["internal/bytealg.IndexByteString", "internal/bytealg.IndexString", "internal/bytealg.CountString", "internal/abi.NoEscape"], unfollowed := true, recurses := true, named := ["unicode/utf8.first", "unicode/utf8.acceptRanges", "internal/bytealg.MaxLen"], plainKeys := false, apart := false, laid := [("unicode/utf8.acceptRanges", laid_unicode_utf8_acceptRanges), ("unicode/utf8.first", laid_unicode_utf8_first)] }
def SourceOffsetsSaid : Prop := sourceOffsetsRow.holds Tryz.pinned (OpenSpec.ofChange sourceOffsetsSpec)

/-- ITS FALSE NEIGHBOUR: 'it returns false'. Refute it at one input. -/
def sourceOffsetsWrong : ChangeSpec := { name := "sourceOffsets", fn := fun _ => fun
  | [d1, d2, d3] => { results := [.lit (.bool false)], args := [d1, d2, d3] }
  | _ => none }
def SourceOffsetsWrongFalsely : Prop := sourceOffsetsRow.holds Tryz.pinned (OpenSpec.ofChange sourceOffsetsWrong)

/-- 'koinelaw07.SourceIncludes': WHATEVER THE INPUT: true; the input reads as it did. -/
def sourceIncludesSpec : ChangeSpec := { name := "sourceIncludes", fn := fun _ => fun
  | [d1, d2] => { results := [.lit (.bool true)], args := [d1, d2] }
  | _ => none }
def sourceIncludesRow : OpenClaim := { program := "ytedopgkbajhanaagreatdoor", sum := "67110b1407bfde3a0a5dc018423891ae813445482b3fd361b33d4285a3eaf8b5", func := "koine/koinelaw07.SourceIncludes", spec := "sourceIncludes", inPlace := ["internal/bytealg.IndexByteString", "internal/bytealg.IndexString", "internal/bytealg.CountString", "internal/abi.NoEscape"], unfollowed := true, recurses := true, named := ["unicode/utf8.first", "unicode/utf8.acceptRanges", "internal/bytealg.MaxLen"], plainKeys := false, apart := false, laid := [("unicode/utf8.acceptRanges", laid_unicode_utf8_acceptRanges), ("unicode/utf8.first", laid_unicode_utf8_first)] }
def SourceIncludesSaid : Prop := sourceIncludesRow.holds Tryz.pinned (OpenSpec.ofChange sourceIncludesSpec)

/-- ITS FALSE NEIGHBOUR: 'it returns false'. Refute it at one input. -/
def sourceIncludesWrong : ChangeSpec := { name := "sourceIncludes", fn := fun _ => fun
  | [d1, d2] => { results := [.lit (.bool false)], args := [d1, d2] }
  | _ => none }
def SourceIncludesWrongFalsely : Prop := sourceIncludesRow.holds Tryz.pinned (OpenSpec.ofChange sourceIncludesWrong)

/-- 'koinelaw07.SourceErrors': WHATEVER THE INPUT: true; the input reads as it did. -/
def sourceErrorsSpec : ChangeSpec := { name := "sourceErrors", fn := fun _ => fun
  | [d1, d2] => { results := [.lit (.bool true)], args := [d1, d2] }
  | _ => none }
def sourceErrorsRow : OpenClaim := { program := "ytedopgkbajhanaagreatdoor", sum := "67110b1407bfde3a0a5dc018423891ae813445482b3fd361b33d4285a3eaf8b5", func := "koine/koinelaw07.SourceErrors", spec := "sourceErrors", inPlace := ["internal/bytealg.IndexByteString", "internal/bytealg.IndexString", "internal/bytealg.CountString", "internal/abi.NoEscape"], unfollowed := true, recurses := true, named := ["unicode/utf8.first", "unicode/utf8.acceptRanges", "internal/bytealg.MaxLen"], plainKeys := false, apart := false, laid := [("unicode/utf8.acceptRanges", laid_unicode_utf8_acceptRanges), ("unicode/utf8.first", laid_unicode_utf8_first)] }
def SourceErrorsSaid : Prop := sourceErrorsRow.holds Tryz.pinned (OpenSpec.ofChange sourceErrorsSpec)

/-- ITS FALSE NEIGHBOUR: 'it returns false'. Refute it at one input. -/
def sourceErrorsWrong : ChangeSpec := { name := "sourceErrors", fn := fun _ => fun
  | [d1, d2] => { results := [.lit (.bool false)], args := [d1, d2] }
  | _ => none }
def SourceErrorsWrongFalsely : Prop := sourceErrorsRow.holds Tryz.pinned (OpenSpec.ofChange sourceErrorsWrong)

/-- 'koinelaw07.SourcePlain': WHATEVER THE INPUT: true; the input reads as it did. -/
def sourcePlainSpec : ChangeSpec := { name := "sourcePlain", fn := fun _ => fun
  | [d1, d2] => { results := [.lit (.bool true)], args := [d1, d2] }
  | _ => none }
def sourcePlainRow : OpenClaim := { program := "ytedopgkbajhanaagreatdoor", sum := "67110b1407bfde3a0a5dc018423891ae813445482b3fd361b33d4285a3eaf8b5", func := "koine/koinelaw07.SourcePlain", spec := "sourcePlain", inPlace := ["internal/bytealg.IndexByteString", "internal/bytealg.IndexString", "internal/bytealg.CountString", "internal/abi.NoEscape"], unfollowed := true, recurses := true, named := ["unicode/utf8.first", "unicode/utf8.acceptRanges", "internal/bytealg.MaxLen"], plainKeys := false, apart := false, laid := [("unicode/utf8.acceptRanges", laid_unicode_utf8_acceptRanges), ("unicode/utf8.first", laid_unicode_utf8_first)] }
def SourcePlainSaid : Prop := sourcePlainRow.holds Tryz.pinned (OpenSpec.ofChange sourcePlainSpec)

/-- ITS FALSE NEIGHBOUR: 'it returns false'. Refute it at one input. -/
def sourcePlainWrong : ChangeSpec := { name := "sourcePlain", fn := fun _ => fun
  | [d1, d2] => { results := [.lit (.bool false)], args := [d1, d2] }
  | _ => none }
def SourcePlainWrongFalsely : Prop := sourcePlainRow.holds Tryz.pinned (OpenSpec.ofChange sourcePlainWrong)

/-- 'koinelaw07.SourceDead': WHATEVER THE INPUT: true; the input reads as it did. -/
def sourceDeadSpec : ChangeSpec := { name := "sourceDead", fn := fun _ => fun
  | [d1, d2, d3] => { results := [.lit (.bool true)], args := [d1, d2, d3] }
  | _ => none }
def sourceDeadRow : OpenClaim := { program := "ytedopgkbajhanaagreatdoor", sum := "67110b1407bfde3a0a5dc018423891ae813445482b3fd361b33d4285a3eaf8b5", func := "koine/koinelaw07.SourceDead", spec := "sourceDead", inPlace := ["internal/bytealg.IndexByteString", "internal/bytealg.IndexString", "internal/bytealg.CountString", "internal/abi.NoEscape"], unfollowed := true, recurses := true, named := ["unicode/utf8.first", "unicode/utf8.acceptRanges", "internal/bytealg.MaxLen"], plainKeys := false, apart := false, laid := [("unicode/utf8.acceptRanges", laid_unicode_utf8_acceptRanges), ("unicode/utf8.first", laid_unicode_utf8_first)] }
def SourceDeadSaid : Prop := sourceDeadRow.holds Tryz.pinned (OpenSpec.ofChange sourceDeadSpec)

/-- ITS FALSE NEIGHBOUR: 'it returns false'. Refute it at one input. -/
def sourceDeadWrong : ChangeSpec := { name := "sourceDead", fn := fun _ => fun
  | [d1, d2, d3] => { results := [.lit (.bool false)], args := [d1, d2, d3] }
  | _ => none }
def SourceDeadWrongFalsely : Prop := sourceDeadRow.holds Tryz.pinned (OpenSpec.ofChange sourceDeadWrong)

/- THE SECOND FORM. 'bulk': how many values and letters a reading holds, each counted each time it is reached (what is shared counts as often as it is met; a slice's spare places count too). A statement '..UptoSaid' is the law's where the arguments, and the package variables that the reading takes, are together of bulk at most 1048576: NARROWER than '..Said'. Prove '..Said' where nothing that the law and all that it calls make is longer than what came in: it says more and counts as full. Else prove '..UptoSaid'. A law counts once. -/
mutual
def uptoBulk {H : Type} : DataW H → Nat
  | .lit (.string bytes) => bytes.length + 1
  | .lit _ => 1
  | .nil => 1
  | .ptr d => uptoBulk d + 1
  | .slice elems spare => uptoBulkAll elems + uptoBulkAll spare + 1
  | .agg parts => uptoBulkAll parts + 1
  | .iface _ d => uptoBulk d + 1
  | .map entries => uptoBulkEntries entries + 1
  | .held _ => 1
def uptoBulkAll {H : Type} : List (DataW H) → Nat
  | [] => 0
  | d :: r => uptoBulk d + uptoBulkAll r
def uptoBulkEntries {H : Type} : List (Lit × DataW H) → Nat
  | [] => 0
  | x :: r => uptoBulkEntry x + uptoBulkEntries r
def uptoBulkEntry {H : Type} : Lit × DataW H → Nat
  | (.string bytes, d) => bytes.length + uptoBulk d + 1
  | (_, d) => uptoBulk d + 1
 end
def uptoSmall : (H : Type) → List (DataW H) → Bool := fun _ ds => decide (uptoBulkAll ds ≤ 1048576)
def OpenSpec.upto (s : _root_.Go.ChangeSpec) : _root_.Go.OpenSpec := { _root_.Go.OpenSpec.ofChange s with cond := some uptoSmall }

/-- 'koinelaw07.SourceMatchesReference', WHERE WHAT IT READS IS OF BULK AT MOST 1048576: true; the input reads as it did. -/
def sourceMatchesReferenceUptoRow : OpenClaim := { program := "ytedopgkbajhanaagreatdoor", sum := "67110b1407bfde3a0a5dc018423891ae813445482b3fd361b33d4285a3eaf8b5", func := "koine/koinelaw07.SourceMatchesReference", spec := "sourceMatchesReference", inPlace := ["internal/bytealg.IndexByteString", "internal/bytealg.IndexString", "internal/bytealg.CountString", "internal/abi.NoEscape"], unfollowed := true, recurses := true, named := ["unicode/utf8.first", "unicode/utf8.acceptRanges", "internal/bytealg.MaxLen"], plainKeys := false, apart := false, laid := [("unicode/utf8.acceptRanges", laid_unicode_utf8_acceptRanges), ("unicode/utf8.first", laid_unicode_utf8_first)], narrowed := true }
def SourceMatchesReferenceUptoSaid : Prop := sourceMatchesReferenceUptoRow.holds Tryz.pinned (OpenSpec.upto sourceMatchesReferenceSpec)

/-- 'koinelaw07.SourceNames', WHERE WHAT IT READS IS OF BULK AT MOST 1048576: true; the input reads as it did. -/
def sourceNamesUptoRow : OpenClaim := { program := "ytedopgkbajhanaagreatdoor", sum := "67110b1407bfde3a0a5dc018423891ae813445482b3fd361b33d4285a3eaf8b5", func := "koine/koinelaw07.SourceNames", spec := "sourceNames", inPlace := ["internal/bytealg.IndexByteString", "internal/bytealg.IndexString", "internal/bytealg.CountString", "internal/abi.NoEscape"], unfollowed := true, recurses := true, named := ["unicode/utf8.first", "unicode/utf8.acceptRanges", "internal/bytealg.MaxLen"], plainKeys := false, apart := false, laid := [("unicode/utf8.acceptRanges", laid_unicode_utf8_acceptRanges), ("unicode/utf8.first", laid_unicode_utf8_first)], narrowed := true }
def SourceNamesUptoSaid : Prop := sourceNamesUptoRow.holds Tryz.pinned (OpenSpec.upto sourceNamesSpec)

/-- 'koinelaw07.SourceAnyMatchesReference', WHERE WHAT IT READS IS OF BULK AT MOST 1048576: true; the input reads as it did. -/
def sourceAnyMatchesReferenceUptoRow : OpenClaim := { program := "ytedopgkbajhanaagreatdoor", sum := "67110b1407bfde3a0a5dc018423891ae813445482b3fd361b33d4285a3eaf8b5", func := "koine/koinelaw07.SourceAnyMatchesReference", spec := "sourceAnyMatchesReference", inPlace := ["internal/bytealg.IndexByteString", "internal/bytealg.IndexString", "internal/bytealg.CountString", "internal/abi.NoEscape"], unfollowed := true, recurses := true, named := ["unicode/utf8.first", "unicode/utf8.acceptRanges", "internal/bytealg.MaxLen"], plainKeys := false, apart := false, laid := [("unicode/utf8.acceptRanges", laid_unicode_utf8_acceptRanges), ("unicode/utf8.first", laid_unicode_utf8_first)], narrowed := true }
def SourceAnyMatchesReferenceUptoSaid : Prop := sourceAnyMatchesReferenceUptoRow.holds Tryz.pinned (OpenSpec.upto sourceAnyMatchesReferenceSpec)

/-- 'koinelaw07.SourceSelection', WHERE WHAT IT READS IS OF BULK AT MOST 1048576: true; the input reads as it did. -/
def sourceSelectionUptoRow : OpenClaim := { program := "ytedopgkbajhanaagreatdoor", sum := "67110b1407bfde3a0a5dc018423891ae813445482b3fd361b33d4285a3eaf8b5", func := "koine/koinelaw07.SourceSelection", spec := "sourceSelection", inPlace := ["internal/bytealg.IndexByteString", "internal/bytealg.IndexString", "internal/bytealg.CountString", "internal/abi.NoEscape"], unfollowed := true, recurses := true, named := ["unicode/utf8.first", "unicode/utf8.acceptRanges", "internal/bytealg.MaxLen"], plainKeys := false, apart := false, laid := [("unicode/utf8.acceptRanges", laid_unicode_utf8_acceptRanges), ("unicode/utf8.first", laid_unicode_utf8_first)], narrowed := true }
def SourceSelectionUptoSaid : Prop := sourceSelectionUptoRow.holds Tryz.pinned (OpenSpec.upto sourceSelectionSpec)

/-- 'koinelaw07.SourceSections', WHERE WHAT IT READS IS OF BULK AT MOST 1048576: true; the input reads as it did. -/
def sourceSectionsUptoRow : OpenClaim := { program := "ytedopgkbajhanaagreatdoor", sum := "67110b1407bfde3a0a5dc018423891ae813445482b3fd361b33d4285a3eaf8b5", func := "koine/koinelaw07.SourceSections", spec := "sourceSections", inPlace := ["internal/bytealg.IndexByteString", "internal/bytealg.IndexString", "internal/bytealg.CountString", "internal/abi.NoEscape"], unfollowed := true, recurses := true, named := ["unicode/utf8.first", "unicode/utf8.acceptRanges", "internal/bytealg.MaxLen"], plainKeys := false, apart := false, laid := [("unicode/utf8.acceptRanges", laid_unicode_utf8_acceptRanges), ("unicode/utf8.first", laid_unicode_utf8_first)], narrowed := true }
def SourceSectionsUptoSaid : Prop := sourceSectionsUptoRow.holds Tryz.pinned (OpenSpec.upto sourceSectionsSpec)

/-- 'koinelaw07.SourceOffsets', WHERE WHAT IT READS IS OF BULK AT MOST 1048576: true; the input reads as it did. -/
def sourceOffsetsUptoRow : OpenClaim := { program := "ytedopgkbajhanaagreatdoor", sum := "67110b1407bfde3a0a5dc018423891ae813445482b3fd361b33d4285a3eaf8b5", func := "koine/koinelaw07.SourceOffsets", spec := "sourceOffsets", inPlace := ["internal/bytealg.IndexByteString", "internal/bytealg.IndexString", "internal/bytealg.CountString", "internal/abi.NoEscape"], unfollowed := true, recurses := true, named := ["unicode/utf8.first", "unicode/utf8.acceptRanges", "internal/bytealg.MaxLen"], plainKeys := false, apart := false, laid := [("unicode/utf8.acceptRanges", laid_unicode_utf8_acceptRanges), ("unicode/utf8.first", laid_unicode_utf8_first)], narrowed := true }
def SourceOffsetsUptoSaid : Prop := sourceOffsetsUptoRow.holds Tryz.pinned (OpenSpec.upto sourceOffsetsSpec)

/-- 'koinelaw07.SourceIncludes', WHERE WHAT IT READS IS OF BULK AT MOST 1048576: true; the input reads as it did. -/
def sourceIncludesUptoRow : OpenClaim := { program := "ytedopgkbajhanaagreatdoor", sum := "67110b1407bfde3a0a5dc018423891ae813445482b3fd361b33d4285a3eaf8b5", func := "koine/koinelaw07.SourceIncludes", spec := "sourceIncludes", inPlace := ["internal/bytealg.IndexByteString", "internal/bytealg.IndexString", "internal/bytealg.CountString", "internal/abi.NoEscape"], unfollowed := true, recurses := true, named := ["unicode/utf8.first", "unicode/utf8.acceptRanges", "internal/bytealg.MaxLen"], plainKeys := false, apart := false, laid := [("unicode/utf8.acceptRanges", laid_unicode_utf8_acceptRanges), ("unicode/utf8.first", laid_unicode_utf8_first)], narrowed := true }
def SourceIncludesUptoSaid : Prop := sourceIncludesUptoRow.holds Tryz.pinned (OpenSpec.upto sourceIncludesSpec)

/-- 'koinelaw07.SourceErrors', WHERE WHAT IT READS IS OF BULK AT MOST 1048576: true; the input reads as it did. -/
def sourceErrorsUptoRow : OpenClaim := { program := "ytedopgkbajhanaagreatdoor", sum := "67110b1407bfde3a0a5dc018423891ae813445482b3fd361b33d4285a3eaf8b5", func := "koine/koinelaw07.SourceErrors", spec := "sourceErrors", inPlace := ["internal/bytealg.IndexByteString", "internal/bytealg.IndexString", "internal/bytealg.CountString", "internal/abi.NoEscape"], unfollowed := true, recurses := true, named := ["unicode/utf8.first", "unicode/utf8.acceptRanges", "internal/bytealg.MaxLen"], plainKeys := false, apart := false, laid := [("unicode/utf8.acceptRanges", laid_unicode_utf8_acceptRanges), ("unicode/utf8.first", laid_unicode_utf8_first)], narrowed := true }
def SourceErrorsUptoSaid : Prop := sourceErrorsUptoRow.holds Tryz.pinned (OpenSpec.upto sourceErrorsSpec)

/-- 'koinelaw07.SourcePlain', WHERE WHAT IT READS IS OF BULK AT MOST 1048576: true; the input reads as it did. -/
def sourcePlainUptoRow : OpenClaim := { program := "ytedopgkbajhanaagreatdoor", sum := "67110b1407bfde3a0a5dc018423891ae813445482b3fd361b33d4285a3eaf8b5", func := "koine/koinelaw07.SourcePlain", spec := "sourcePlain", inPlace := ["internal/bytealg.IndexByteString", "internal/bytealg.IndexString", "internal/bytealg.CountString", "internal/abi.NoEscape"], unfollowed := true, recurses := true, named := ["unicode/utf8.first", "unicode/utf8.acceptRanges", "internal/bytealg.MaxLen"], plainKeys := false, apart := false, laid := [("unicode/utf8.acceptRanges", laid_unicode_utf8_acceptRanges), ("unicode/utf8.first", laid_unicode_utf8_first)], narrowed := true }
def SourcePlainUptoSaid : Prop := sourcePlainUptoRow.holds Tryz.pinned (OpenSpec.upto sourcePlainSpec)

/-- 'koinelaw07.SourceDead', WHERE WHAT IT READS IS OF BULK AT MOST 1048576: true; the input reads as it did. -/
def sourceDeadUptoRow : OpenClaim := { program := "ytedopgkbajhanaagreatdoor", sum := "67110b1407bfde3a0a5dc018423891ae813445482b3fd361b33d4285a3eaf8b5", func := "koine/koinelaw07.SourceDead", spec := "sourceDead", inPlace := ["internal/bytealg.IndexByteString", "internal/bytealg.IndexString", "internal/bytealg.CountString", "internal/abi.NoEscape"], unfollowed := true, recurses := true, named := ["unicode/utf8.first", "unicode/utf8.acceptRanges", "internal/bytealg.MaxLen"], plainKeys := false, apart := false, laid := [("unicode/utf8.acceptRanges", laid_unicode_utf8_acceptRanges), ("unicode/utf8.first", laid_unicode_utf8_first)], narrowed := true }
def SourceDeadUptoSaid : Prop := sourceDeadUptoRow.holds Tryz.pinned (OpenSpec.upto sourceDeadSpec)

end Rows
end Go.Proofs.YtedopgkbajhanaaGreatDoor
