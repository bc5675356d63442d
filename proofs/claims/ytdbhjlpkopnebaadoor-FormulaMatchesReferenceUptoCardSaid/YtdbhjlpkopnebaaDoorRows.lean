/-
  NARROWER THAN 'FOR EVERY INPUT', by the rows' own cells (each row's printed sentence says how): FormulaParsesLikeReference: laid · FormulaAnyDiagram: laid · FormulaRoundTrip: laid · FormulaParentheses: laid · FormulaSpaces: laid · FormulaMatchesReference: laid · FormulaOperators: laid · FormulaHoldsInItsSet: laid.
  DERIVED. THE GIVEN ROWS OF THIS SEAT. 8 by the template 'for every input the law returns true; each argument reads behind the call as it read before'; 0 by the template 'total and deterministic' (their statements: YtdbhjlpkopnebaaDoorTotals.lean).
  GIVEN WITH THE SEED: the statements are not yours to turn. If you find one false, say at which input.
  Laid BY PROGRAM, IN A SANDBOX (cutbox-rows.mjs): the forced cells as the released guide's own fill.sh prints them over the translation 8247dfb6e874da3a… (all of the seat's roots in one cut). By AI agents, Wed Nov 11 2026. No macro, syntax, notation, axiom, sorry.
-/
import Derived.Test.YtdbhjlpkopnebaaDoorChecked
import GoSem.PinnedTables
import GoSem.Claim
import GoSem.ClaimJoined
import GoSem.ClaimMapViews
import Derived.JoinedTies
import Derived.KernelRfl
namespace Go.Proofs.YtdbhjlpkopnebaaDoor
/- THE CELL 'sum', in the pinned program and in every row, IS THE sha256 OF THE DUMP (.gsa) THAT YtdbhjlpkopnebaaDoorProg.lean LOADS. Nothing in Lean hashes anything: it is a label: what it is worth is what the hold of that sum in a sandbox is worth. -/
noncomputable def Tryd.pinned : Pinned := { name := "ytdbhjlpkopnebaadoor", sum := "8247dfb6e874da3ade41c40c238f0446628115ee68fecc54a347d21ed3577739", checked := Tryd.checked }
namespace Rows
def none {H : Type} : Left H := { results := [], args := [] }

/- WHAT THE LISTED PACKAGE-LEVEL VARIABLES READ AS WHEN THE CALL BEGINS. Each datum BY PROGRAM (the guide's laid-datum.mjs) off the statement by which the dump's own 'gosem.cut.vars' lays the variable. In a bare row this is a premise. The card (YtdbhjlpkopnebaaDoorCards.lean) ties it to the program's text. -/
def laid_unicode_utf8_acceptRanges {H : Type} : DataW H := .agg [.agg [.lit (.int .u8 128), .lit (.int .u8 191)], .agg [.lit (.int .u8 160), .lit (.int .u8 191)], .agg [.lit (.int .u8 128), .lit (.int .u8 159)], .agg [.lit (.int .u8 144), .lit (.int .u8 191)], .agg [.lit (.int .u8 128), .lit (.int .u8 143)], .agg [.lit (.int .u8 0), .lit (.int .u8 0)], .agg [.lit (.int .u8 0), .lit (.int .u8 0)], .agg [.lit (.int .u8 0), .lit (.int .u8 0)], .agg [.lit (.int .u8 0), .lit (.int .u8 0)], .agg [.lit (.int .u8 0), .lit (.int .u8 0)], .agg [.lit (.int .u8 0), .lit (.int .u8 0)], .agg [.lit (.int .u8 0), .lit (.int .u8 0)], .agg [.lit (.int .u8 0), .lit (.int .u8 0)], .agg [.lit (.int .u8 0), .lit (.int .u8 0)], .agg [.lit (.int .u8 0), .lit (.int .u8 0)], .agg [.lit (.int .u8 0), .lit (.int .u8 0)]]
/-- One of Go's own tables, pinned by name: the form's constant. -/
def laid_unicode_utf8_first : DataW Unit := Go.Pinned.utf8First

/-- 'koinelaw03.FormulaParsesLikeReference': WHATEVER THE INPUT: true; the input reads as it did. -/
def formulaParsesLikeReferenceSpec : ChangeSpec := { name := "formulaParsesLikeReference", fn := fun _ => fun
  | [d1, d2] => { results := [.lit (.bool true)], args := [d1, d2] }
  | _ => none }
def formulaParsesLikeReferenceRow : OpenClaim := { program := "ytdbhjlpkopnebaadoor", sum := "8247dfb6e874da3ade41c40c238f0446628115ee68fecc54a347d21ed3577739", func := "koine/koinelaw03.FormulaParsesLikeReference", spec := "formulaParsesLikeReference", inPlace := ["internal/bytealg.IndexByteString", "internal/bytealg.IndexString", "internal/abi.NoEscape"], unfollowed := true, recurses := true, named := ["unicode/utf8.first", "unicode/utf8.acceptRanges", "internal/bytealg.MaxLen"], plainKeys := false, apart := false, laid := [("unicode/utf8.acceptRanges", laid_unicode_utf8_acceptRanges), ("unicode/utf8.first", laid_unicode_utf8_first)] }
def FormulaParsesLikeReferenceSaid : Prop := formulaParsesLikeReferenceRow.holds Tryd.pinned (OpenSpec.ofChange formulaParsesLikeReferenceSpec)

/-- ITS FALSE NEIGHBOUR: 'it returns false'. Refute it at one input. -/
def formulaParsesLikeReferenceWrong : ChangeSpec := { name := "formulaParsesLikeReference", fn := fun _ => fun
  | [d1, d2] => { results := [.lit (.bool false)], args := [d1, d2] }
  | _ => none }
def FormulaParsesLikeReferenceWrongFalsely : Prop := formulaParsesLikeReferenceRow.holds Tryd.pinned (OpenSpec.ofChange formulaParsesLikeReferenceWrong)

/-- 'koinelaw03.FormulaAnyDiagram': WHATEVER THE INPUT: true; the input reads as it did. -/
def formulaAnyDiagramSpec : ChangeSpec := { name := "formulaAnyDiagram", fn := fun _ => fun
  | [d] => { results := [.lit (.bool true)], args := [d] }
  | _ => none }
def formulaAnyDiagramRow : OpenClaim := { program := "ytdbhjlpkopnebaadoor", sum := "8247dfb6e874da3ade41c40c238f0446628115ee68fecc54a347d21ed3577739", func := "koine/koinelaw03.FormulaAnyDiagram", spec := "formulaAnyDiagram", inPlace := ["internal/bytealg.IndexByteString", "internal/bytealg.IndexString", "internal/abi.NoEscape"], unfollowed := true, recurses := true, named := ["unicode/utf8.first", "unicode/utf8.acceptRanges", "internal/bytealg.MaxLen"], plainKeys := false, apart := false, laid := [("unicode/utf8.acceptRanges", laid_unicode_utf8_acceptRanges), ("unicode/utf8.first", laid_unicode_utf8_first)] }
def FormulaAnyDiagramSaid : Prop := formulaAnyDiagramRow.holds Tryd.pinned (OpenSpec.ofChange formulaAnyDiagramSpec)

/-- ITS FALSE NEIGHBOUR: 'it returns false'. Refute it at one input. -/
def formulaAnyDiagramWrong : ChangeSpec := { name := "formulaAnyDiagram", fn := fun _ => fun
  | [d] => { results := [.lit (.bool false)], args := [d] }
  | _ => none }
def FormulaAnyDiagramWrongFalsely : Prop := formulaAnyDiagramRow.holds Tryd.pinned (OpenSpec.ofChange formulaAnyDiagramWrong)

/-- 'koinelaw03.FormulaRoundTrip': WHATEVER THE INPUT: true; the input reads as it did. -/
def formulaRoundTripSpec : ChangeSpec := { name := "formulaRoundTrip", fn := fun _ => fun
  | [d1, d2] => { results := [.lit (.bool true)], args := [d1, d2] }
  | _ => none }
def formulaRoundTripRow : OpenClaim := { program := "ytdbhjlpkopnebaadoor", sum := "8247dfb6e874da3ade41c40c238f0446628115ee68fecc54a347d21ed3577739", func := "koine/koinelaw03.FormulaRoundTrip", spec := "formulaRoundTrip", inPlace := ["internal/bytealg.IndexByteString", "internal/bytealg.IndexString", "internal/abi.NoEscape"], unfollowed := true, recurses := true, named := ["unicode/utf8.first", "unicode/utf8.acceptRanges", "internal/bytealg.MaxLen"], plainKeys := false, apart := false, laid := [("unicode/utf8.acceptRanges", laid_unicode_utf8_acceptRanges), ("unicode/utf8.first", laid_unicode_utf8_first)] }
def FormulaRoundTripSaid : Prop := formulaRoundTripRow.holds Tryd.pinned (OpenSpec.ofChange formulaRoundTripSpec)

/-- ITS FALSE NEIGHBOUR: 'it returns false'. Refute it at one input. -/
def formulaRoundTripWrong : ChangeSpec := { name := "formulaRoundTrip", fn := fun _ => fun
  | [d1, d2] => { results := [.lit (.bool false)], args := [d1, d2] }
  | _ => none }
def FormulaRoundTripWrongFalsely : Prop := formulaRoundTripRow.holds Tryd.pinned (OpenSpec.ofChange formulaRoundTripWrong)

/-- 'koinelaw03.FormulaParentheses': WHATEVER THE INPUT: true; the input reads as it did. -/
def formulaParenthesesSpec : ChangeSpec := { name := "formulaParentheses", fn := fun _ => fun
  | [d1, d2] => { results := [.lit (.bool true)], args := [d1, d2] }
  | _ => none }
def formulaParenthesesRow : OpenClaim := { program := "ytdbhjlpkopnebaadoor", sum := "8247dfb6e874da3ade41c40c238f0446628115ee68fecc54a347d21ed3577739", func := "koine/koinelaw03.FormulaParentheses", spec := "formulaParentheses", inPlace := ["internal/bytealg.IndexByteString", "internal/bytealg.IndexString", "internal/abi.NoEscape"], unfollowed := true, recurses := true, named := ["unicode/utf8.first", "unicode/utf8.acceptRanges", "internal/bytealg.MaxLen"], plainKeys := false, apart := false, laid := [("unicode/utf8.acceptRanges", laid_unicode_utf8_acceptRanges), ("unicode/utf8.first", laid_unicode_utf8_first)] }
def FormulaParenthesesSaid : Prop := formulaParenthesesRow.holds Tryd.pinned (OpenSpec.ofChange formulaParenthesesSpec)

/-- ITS FALSE NEIGHBOUR: 'it returns false'. Refute it at one input. -/
def formulaParenthesesWrong : ChangeSpec := { name := "formulaParentheses", fn := fun _ => fun
  | [d1, d2] => { results := [.lit (.bool false)], args := [d1, d2] }
  | _ => none }
def FormulaParenthesesWrongFalsely : Prop := formulaParenthesesRow.holds Tryd.pinned (OpenSpec.ofChange formulaParenthesesWrong)

/-- 'koinelaw03.FormulaSpaces': WHATEVER THE INPUT: true; the input reads as it did. -/
def formulaSpacesSpec : ChangeSpec := { name := "formulaSpaces", fn := fun _ => fun
  | [d1, d2, d3] => { results := [.lit (.bool true)], args := [d1, d2, d3] }
  | _ => none }
def formulaSpacesRow : OpenClaim := { program := "ytdbhjlpkopnebaadoor", sum := "8247dfb6e874da3ade41c40c238f0446628115ee68fecc54a347d21ed3577739", func := "koine/koinelaw03.FormulaSpaces", spec := "formulaSpaces", inPlace := ["internal/bytealg.IndexByteString", "internal/bytealg.IndexString", "internal/abi.NoEscape"], unfollowed := true, recurses := true, named := ["unicode/utf8.first", "unicode/utf8.acceptRanges", "internal/bytealg.MaxLen"], plainKeys := false, apart := false, laid := [("unicode/utf8.acceptRanges", laid_unicode_utf8_acceptRanges), ("unicode/utf8.first", laid_unicode_utf8_first)] }
def FormulaSpacesSaid : Prop := formulaSpacesRow.holds Tryd.pinned (OpenSpec.ofChange formulaSpacesSpec)

/-- ITS FALSE NEIGHBOUR: 'it returns false'. Refute it at one input. -/
def formulaSpacesWrong : ChangeSpec := { name := "formulaSpaces", fn := fun _ => fun
  | [d1, d2, d3] => { results := [.lit (.bool false)], args := [d1, d2, d3] }
  | _ => none }
def FormulaSpacesWrongFalsely : Prop := formulaSpacesRow.holds Tryd.pinned (OpenSpec.ofChange formulaSpacesWrong)

/-- 'koinelaw03.FormulaMatchesReference': WHATEVER THE INPUT: true; the input reads as it did. -/
def formulaMatchesReferenceSpec : ChangeSpec := { name := "formulaMatchesReference", fn := fun _ => fun
  | [d1, d2, d3] => { results := [.lit (.bool true)], args := [d1, d2, d3] }
  | _ => none }
def formulaMatchesReferenceRow : OpenClaim := { program := "ytdbhjlpkopnebaadoor", sum := "8247dfb6e874da3ade41c40c238f0446628115ee68fecc54a347d21ed3577739", func := "koine/koinelaw03.FormulaMatchesReference", spec := "formulaMatchesReference", inPlace := ["internal/bytealg.IndexByteString", "internal/bytealg.IndexString", "internal/abi.NoEscape"], unfollowed := true, recurses := true, named := ["unicode/utf8.first", "unicode/utf8.acceptRanges", "internal/bytealg.MaxLen"], plainKeys := false, apart := false, laid := [("unicode/utf8.acceptRanges", laid_unicode_utf8_acceptRanges), ("unicode/utf8.first", laid_unicode_utf8_first)] }
def FormulaMatchesReferenceSaid : Prop := formulaMatchesReferenceRow.holds Tryd.pinned (OpenSpec.ofChange formulaMatchesReferenceSpec)

/-- ITS FALSE NEIGHBOUR: 'it returns false'. Refute it at one input. -/
def formulaMatchesReferenceWrong : ChangeSpec := { name := "formulaMatchesReference", fn := fun _ => fun
  | [d1, d2, d3] => { results := [.lit (.bool false)], args := [d1, d2, d3] }
  | _ => none }
def FormulaMatchesReferenceWrongFalsely : Prop := formulaMatchesReferenceRow.holds Tryd.pinned (OpenSpec.ofChange formulaMatchesReferenceWrong)

/-- 'koinelaw03.FormulaOperators': WHATEVER THE INPUT: true; the input reads as it did. -/
def formulaOperatorsSpec : ChangeSpec := { name := "formulaOperators", fn := fun _ => fun
  | [d1, d2, d3] => { results := [.lit (.bool true)], args := [d1, d2, d3] }
  | _ => none }
def formulaOperatorsRow : OpenClaim := { program := "ytdbhjlpkopnebaadoor", sum := "8247dfb6e874da3ade41c40c238f0446628115ee68fecc54a347d21ed3577739", func := "koine/koinelaw03.FormulaOperators", spec := "formulaOperators", inPlace := ["internal/bytealg.IndexByteString", "internal/bytealg.IndexString", "internal/abi.NoEscape"], unfollowed := true, recurses := true, named := ["unicode/utf8.first", "unicode/utf8.acceptRanges", "internal/bytealg.MaxLen"], plainKeys := false, apart := false, laid := [("unicode/utf8.acceptRanges", laid_unicode_utf8_acceptRanges), ("unicode/utf8.first", laid_unicode_utf8_first)] }
def FormulaOperatorsSaid : Prop := formulaOperatorsRow.holds Tryd.pinned (OpenSpec.ofChange formulaOperatorsSpec)

/-- ITS FALSE NEIGHBOUR: 'it returns false'. Refute it at one input. -/
def formulaOperatorsWrong : ChangeSpec := { name := "formulaOperators", fn := fun _ => fun
  | [d1, d2, d3] => { results := [.lit (.bool false)], args := [d1, d2, d3] }
  | _ => none }
def FormulaOperatorsWrongFalsely : Prop := formulaOperatorsRow.holds Tryd.pinned (OpenSpec.ofChange formulaOperatorsWrong)

/-- 'koinelaw03.FormulaHoldsInItsSet': WHATEVER THE INPUT: true; the input reads as it did. -/
def formulaHoldsInItsSetSpec : ChangeSpec := { name := "formulaHoldsInItsSet", fn := fun _ => fun
  | [d1, d2, d3] => { results := [.lit (.bool true)], args := [d1, d2, d3] }
  | _ => none }
def formulaHoldsInItsSetRow : OpenClaim := { program := "ytdbhjlpkopnebaadoor", sum := "8247dfb6e874da3ade41c40c238f0446628115ee68fecc54a347d21ed3577739", func := "koine/koinelaw03.FormulaHoldsInItsSet", spec := "formulaHoldsInItsSet", inPlace := ["internal/bytealg.IndexByteString", "internal/bytealg.IndexString", "internal/abi.NoEscape"], unfollowed := true, recurses := true, named := ["unicode/utf8.first", "unicode/utf8.acceptRanges", "internal/bytealg.MaxLen"], plainKeys := false, apart := false, laid := [("unicode/utf8.acceptRanges", laid_unicode_utf8_acceptRanges), ("unicode/utf8.first", laid_unicode_utf8_first)] }
def FormulaHoldsInItsSetSaid : Prop := formulaHoldsInItsSetRow.holds Tryd.pinned (OpenSpec.ofChange formulaHoldsInItsSetSpec)

/-- ITS FALSE NEIGHBOUR: 'it returns false'. Refute it at one input. -/
def formulaHoldsInItsSetWrong : ChangeSpec := { name := "formulaHoldsInItsSet", fn := fun _ => fun
  | [d1, d2, d3] => { results := [.lit (.bool false)], args := [d1, d2, d3] }
  | _ => none }
def FormulaHoldsInItsSetWrongFalsely : Prop := formulaHoldsInItsSetRow.holds Tryd.pinned (OpenSpec.ofChange formulaHoldsInItsSetWrong)

/- THE SECOND FORM. 'bulk': how many values and letters a reading holds, each counted each time it is reached (what is shared counts as often as it is met; a slice's spare places count too). A statement '..UptoSaid' is the law's where the arguments, and the package variables that the reading takes, are together of bulk at most 1048576: NARROWER than '..Said'. Prove '..Said' where nothing that the law and all that it calls make is longer than what came in: it says more and counts as full. Else prove '..UptoSaid'. A law counts once. -/
mutual
def uptoBulk {H : Type} : DataW H → Nat
  | .lit (.string bytes) => bytes.length + 1
  | .lit _ => 1
  | .nil => 1
  | .ptr d => uptoBulk d + 1
  | .slice elems spare => uptoBulkAll elems + uptoBulkAll spare + 1
  | .agg parts => uptoBulkAll parts + 1
  | .iface _ d => uptoBulk d + 1
  | .map entries => uptoBulkEntries entries + 1
  | .held _ => 1
def uptoBulkAll {H : Type} : List (DataW H) → Nat
  | [] => 0
  | d :: r => uptoBulk d + uptoBulkAll r
def uptoBulkEntries {H : Type} : List (Lit × DataW H) → Nat
  | [] => 0
  | x :: r => uptoBulkEntry x + uptoBulkEntries r
def uptoBulkEntry {H : Type} : Lit × DataW H → Nat
  | (.string bytes, d) => bytes.length + uptoBulk d + 1
  | (_, d) => uptoBulk d + 1
 end
def uptoSmall : (H : Type) → List (DataW H) → Bool := fun _ ds => decide (uptoBulkAll ds ≤ 1048576)
def OpenSpec.upto (s : _root_.Go.ChangeSpec) : _root_.Go.OpenSpec := { _root_.Go.OpenSpec.ofChange s with cond := some uptoSmall }

/-- 'koinelaw03.FormulaParsesLikeReference', WHERE WHAT IT READS IS OF BULK AT MOST 1048576: true; the input reads as it did. -/
def formulaParsesLikeReferenceUptoRow : OpenClaim := { program := "ytdbhjlpkopnebaadoor", sum := "8247dfb6e874da3ade41c40c238f0446628115ee68fecc54a347d21ed3577739", func := "koine/koinelaw03.FormulaParsesLikeReference", spec := "formulaParsesLikeReference", inPlace := ["internal/bytealg.IndexByteString", "internal/bytealg.IndexString", "internal/abi.NoEscape"], unfollowed := true, recurses := true, named := ["unicode/utf8.first", "unicode/utf8.acceptRanges", "internal/bytealg.MaxLen"], plainKeys := false, apart := false, laid := [("unicode/utf8.acceptRanges", laid_unicode_utf8_acceptRanges), ("unicode/utf8.first", laid_unicode_utf8_first)], narrowed := true }
def FormulaParsesLikeReferenceUptoSaid : Prop := formulaParsesLikeReferenceUptoRow.holds Tryd.pinned (OpenSpec.upto formulaParsesLikeReferenceSpec)

/-- 'koinelaw03.FormulaAnyDiagram', WHERE WHAT IT READS IS OF BULK AT MOST 1048576: true; the input reads as it did. -/
def formulaAnyDiagramUptoRow : OpenClaim := { program := "ytdbhjlpkopnebaadoor", sum := "8247dfb6e874da3ade41c40c238f0446628115ee68fecc54a347d21ed3577739", func := "koine/koinelaw03.FormulaAnyDiagram", spec := "formulaAnyDiagram", inPlace := ["internal/bytealg.IndexByteString", "internal/bytealg.IndexString", "internal/abi.NoEscape"], unfollowed := true, recurses := true, named := ["unicode/utf8.first", "unicode/utf8.acceptRanges", "internal/bytealg.MaxLen"], plainKeys := false, apart := false, laid := [("unicode/utf8.acceptRanges", laid_unicode_utf8_acceptRanges), ("unicode/utf8.first", laid_unicode_utf8_first)], narrowed := true }
def FormulaAnyDiagramUptoSaid : Prop := formulaAnyDiagramUptoRow.holds Tryd.pinned (OpenSpec.upto formulaAnyDiagramSpec)

/-- 'koinelaw03.FormulaRoundTrip', WHERE WHAT IT READS IS OF BULK AT MOST 1048576: true; the input reads as it did. -/
def formulaRoundTripUptoRow : OpenClaim := { program := "ytdbhjlpkopnebaadoor", sum := "8247dfb6e874da3ade41c40c238f0446628115ee68fecc54a347d21ed3577739", func := "koine/koinelaw03.FormulaRoundTrip", spec := "formulaRoundTrip", inPlace := ["internal/bytealg.IndexByteString", "internal/bytealg.IndexString", "internal/abi.NoEscape"], unfollowed := true, recurses := true, named := ["unicode/utf8.first", "unicode/utf8.acceptRanges", "internal/bytealg.MaxLen"], plainKeys := false, apart := false, laid := [("unicode/utf8.acceptRanges", laid_unicode_utf8_acceptRanges), ("unicode/utf8.first", laid_unicode_utf8_first)], narrowed := true }
def FormulaRoundTripUptoSaid : Prop := formulaRoundTripUptoRow.holds Tryd.pinned (OpenSpec.upto formulaRoundTripSpec)

/-- 'koinelaw03.FormulaParentheses', WHERE WHAT IT READS IS OF BULK AT MOST 1048576: true; the input reads as it did. -/
def formulaParenthesesUptoRow : OpenClaim := { program := "ytdbhjlpkopnebaadoor", sum := "8247dfb6e874da3ade41c40c238f0446628115ee68fecc54a347d21ed3577739", func := "koine/koinelaw03.FormulaParentheses", spec := "formulaParentheses", inPlace := ["internal/bytealg.IndexByteString", "internal/bytealg.IndexString", "internal/abi.NoEscape"], unfollowed := true, recurses := true, named := ["unicode/utf8.first", "unicode/utf8.acceptRanges", "internal/bytealg.MaxLen"], plainKeys := false, apart := false, laid := [("unicode/utf8.acceptRanges", laid_unicode_utf8_acceptRanges), ("unicode/utf8.first", laid_unicode_utf8_first)], narrowed := true }
def FormulaParenthesesUptoSaid : Prop := formulaParenthesesUptoRow.holds Tryd.pinned (OpenSpec.upto formulaParenthesesSpec)

/-- 'koinelaw03.FormulaSpaces', WHERE WHAT IT READS IS OF BULK AT MOST 1048576: true; the input reads as it did. -/
def formulaSpacesUptoRow : OpenClaim := { program := "ytdbhjlpkopnebaadoor", sum := "8247dfb6e874da3ade41c40c238f0446628115ee68fecc54a347d21ed3577739", func := "koine/koinelaw03.FormulaSpaces", spec := "formulaSpaces", inPlace := ["internal/bytealg.IndexByteString", "internal/bytealg.IndexString", "internal/abi.NoEscape"], unfollowed := true, recurses := true, named := ["unicode/utf8.first", "unicode/utf8.acceptRanges", "internal/bytealg.MaxLen"], plainKeys := false, apart := false, laid := [("unicode/utf8.acceptRanges", laid_unicode_utf8_acceptRanges), ("unicode/utf8.first", laid_unicode_utf8_first)], narrowed := true }
def FormulaSpacesUptoSaid : Prop := formulaSpacesUptoRow.holds Tryd.pinned (OpenSpec.upto formulaSpacesSpec)

/-- 'koinelaw03.FormulaMatchesReference', WHERE WHAT IT READS IS OF BULK AT MOST 1048576: true; the input reads as it did. -/
def formulaMatchesReferenceUptoRow : OpenClaim := { program := "ytdbhjlpkopnebaadoor", sum := "8247dfb6e874da3ade41c40c238f0446628115ee68fecc54a347d21ed3577739", func := "koine/koinelaw03.FormulaMatchesReference", spec := "formulaMatchesReference", inPlace := ["internal/bytealg.IndexByteString", "internal/bytealg.IndexString", "internal/abi.NoEscape"], unfollowed := true, recurses := true, named := ["unicode/utf8.first", "unicode/utf8.acceptRanges", "internal/bytealg.MaxLen"], plainKeys := false, apart := false, laid := [("unicode/utf8.acceptRanges", laid_unicode_utf8_acceptRanges), ("unicode/utf8.first", laid_unicode_utf8_first)], narrowed := true }
def FormulaMatchesReferenceUptoSaid : Prop := formulaMatchesReferenceUptoRow.holds Tryd.pinned (OpenSpec.upto formulaMatchesReferenceSpec)

/-- 'koinelaw03.FormulaOperators', WHERE WHAT IT READS IS OF BULK AT MOST 1048576: true; the input reads as it did. -/
def formulaOperatorsUptoRow : OpenClaim := { program := "ytdbhjlpkopnebaadoor", sum := "8247dfb6e874da3ade41c40c238f0446628115ee68fecc54a347d21ed3577739", func := "koine/koinelaw03.FormulaOperators", spec := "formulaOperators", inPlace := ["internal/bytealg.IndexByteString", "internal/bytealg.IndexString", "internal/abi.NoEscape"], unfollowed := true, recurses := true, named := ["unicode/utf8.first", "unicode/utf8.acceptRanges", "internal/bytealg.MaxLen"], plainKeys := false, apart := false, laid := [("unicode/utf8.acceptRanges", laid_unicode_utf8_acceptRanges), ("unicode/utf8.first", laid_unicode_utf8_first)], narrowed := true }
def FormulaOperatorsUptoSaid : Prop := formulaOperatorsUptoRow.holds Tryd.pinned (OpenSpec.upto formulaOperatorsSpec)

/-- 'koinelaw03.FormulaHoldsInItsSet', WHERE WHAT IT READS IS OF BULK AT MOST 1048576: true; the input reads as it did. -/
def formulaHoldsInItsSetUptoRow : OpenClaim := { program := "ytdbhjlpkopnebaadoor", sum := "8247dfb6e874da3ade41c40c238f0446628115ee68fecc54a347d21ed3577739", func := "koine/koinelaw03.FormulaHoldsInItsSet", spec := "formulaHoldsInItsSet", inPlace := ["internal/bytealg.IndexByteString", "internal/bytealg.IndexString", "internal/abi.NoEscape"], unfollowed := true, recurses := true, named := ["unicode/utf8.first", "unicode/utf8.acceptRanges", "internal/bytealg.MaxLen"], plainKeys := false, apart := false, laid := [("unicode/utf8.acceptRanges", laid_unicode_utf8_acceptRanges), ("unicode/utf8.first", laid_unicode_utf8_first)], narrowed := true }
def FormulaHoldsInItsSetUptoSaid : Prop := formulaHoldsInItsSetUptoRow.holds Tryd.pinned (OpenSpec.upto formulaHoldsInItsSetSpec)

end Rows
end Go.Proofs.YtdbhjlpkopnebaaDoor
