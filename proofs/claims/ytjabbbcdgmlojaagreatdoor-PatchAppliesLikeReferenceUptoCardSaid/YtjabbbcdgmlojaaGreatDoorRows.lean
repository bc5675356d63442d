/-
  NARROWER THAN 'FOR EVERY INPUT', by the rows' own cells (each row's printed sentence says how): PatchEdits: laid · PatchSections: laid · PatchWeavesLikeReference: laid · PatchAppliesLikeReference: laid · PatchOrder: laid · PatchShares: laid · PatchKeeps: laid · PatchWeaves: laid.
  DERIVED. THE GIVEN ROWS OF THIS SEAT. 8 by the template 'for every input the law returns true; each argument reads behind the call as it read before'; 0 by the template 'total and deterministic' (their statements: YtjabbbcdgmlojaaGreatDoorTotals.lean).
  GIVEN WITH THE SEED: the statements are not yours to turn. If you find one false, say at which input.
  Laid BY PROGRAM, IN A SANDBOX (cutbox-rows.mjs): the forced cells as the released guide's own fill.sh prints them over the translation 021083e794336a2a… (all of the seat's roots in one cut). By AI agents, Wed Nov 11 2026. No macro, syntax, notation, axiom, sorry.
-/
import Derived.Test.YtjabbbcdgmlojaaGreatDoorChecked
import GoSem.PinnedTables
import GoSem.Claim
import GoSem.ClaimJoined
import GoSem.ClaimMapViews
import Derived.JoinedTies
import Derived.KernelRfl
namespace Go.Proofs.YtjabbbcdgmlojaaGreatDoor
/- THE CELL 'sum', in the pinned program and in every row, IS THE sha256 OF THE DUMP (.gsa) THAT YtjabbbcdgmlojaaGreatDoorProg.lean LOADS. Nothing in Lean hashes anything: it is a label: what it is worth is what the hold of that sum in a sandbox is worth. -/
noncomputable def Tryz.pinned : Pinned := { name := "ytjabbbcdgmlojaagreatdoor", sum := "021083e794336a2a46e31bb85c9e87ea07904166d6fa102426f8702943a88e83", checked := Tryz.checked }
namespace Rows
def none {H : Type} : Left H := { results := [], args := [] }

/- WHAT THE LISTED PACKAGE-LEVEL VARIABLES READ AS WHEN THE CALL BEGINS. Each datum BY PROGRAM (the guide's laid-datum.mjs) off the statement by which the dump's own 'gosem.cut.vars' lays the variable. In a bare row this is a premise. The card (YtjabbbcdgmlojaaGreatDoorCards.lean) ties it to the program's text. -/
def laid_unicode_utf8_acceptRanges {H : Type} : DataW H := .agg [.agg [.lit (.int .u8 128), .lit (.int .u8 191)], .agg [.lit (.int .u8 160), .lit (.int .u8 191)], .agg [.lit (.int .u8 128), .lit (.int .u8 159)], .agg [.lit (.int .u8 144), .lit (.int .u8 191)], .agg [.lit (.int .u8 128), .lit (.int .u8 143)], .agg [.lit (.int .u8 0), .lit (.int .u8 0)], .agg [.lit (.int .u8 0), .lit (.int .u8 0)], .agg [.lit (.int .u8 0), .lit (.int .u8 0)], .agg [.lit (.int .u8 0), .lit (.int .u8 0)], .agg [.lit (.int .u8 0), .lit (.int .u8 0)], .agg [.lit (.int .u8 0), .lit (.int .u8 0)], .agg [.lit (.int .u8 0), .lit (.int .u8 0)], .agg [.lit (.int .u8 0), .lit (.int .u8 0)], .agg [.lit (.int .u8 0), .lit (.int .u8 0)], .agg [.lit (.int .u8 0), .lit (.int .u8 0)], .agg [.lit (.int .u8 0), .lit (.int .u8 0)]]
/-- One of Go's own tables, pinned by name: the form's constant. -/
def laid_unicode_utf8_first : DataW Unit := Go.Pinned.utf8First

/-- 'koinelaw29.PatchEdits': WHATEVER THE INPUT: true; the input reads as it did. -/
def patchEditsSpec : ChangeSpec := { name := "patchEdits", fn := fun _ => fun
  | [d] => { results := [.lit (.bool true)], args := [d] }
  | _ => none }
def patchEditsRow : OpenClaim := { program := "ytjabbbcdgmlojaagreatdoor", sum := "021083e794336a2a46e31bb85c9e87ea07904166d6fa102426f8702943a88e83", func := "koine/koinelaw29.PatchEdits", spec := "patchEdits", inPlace := ["internal/abi.NoEscape", "internal/bytealg.CountString", "internal/bytealg.IndexByteString", "internal/bytealg.IndexString", "internal/bytealg.MakeNoZero"], unfollowed := true, recurses := true, named := ["unicode/utf8.first", "unicode/utf8.acceptRanges", "internal/bytealg.MaxLen"], plainKeys := false, apart := false, laid := [("unicode/utf8.acceptRanges", laid_unicode_utf8_acceptRanges), ("unicode/utf8.first", laid_unicode_utf8_first)] }
def PatchEditsSaid : Prop := patchEditsRow.holds Tryz.pinned (OpenSpec.ofChange patchEditsSpec)

/-- ITS FALSE NEIGHBOUR: 'it returns false'. Refute it at one input. -/
def patchEditsWrong : ChangeSpec := { name := "patchEdits", fn := fun _ => fun
  | [d] => { results := [.lit (.bool false)], args := [d] }
  | _ => none }
def PatchEditsWrongFalsely : Prop := patchEditsRow.holds Tryz.pinned (OpenSpec.ofChange patchEditsWrong)

/-- 'koinelaw29.PatchSections': WHATEVER THE INPUT: true; the input reads as it did. -/
def patchSectionsSpec : ChangeSpec := { name := "patchSections", fn := fun _ => fun
  | [d1, d2] => { results := [.lit (.bool true)], args := [d1, d2] }
  | _ => none }
def patchSectionsRow : OpenClaim := { program := "ytjabbbcdgmlojaagreatdoor", sum := "021083e794336a2a46e31bb85c9e87ea07904166d6fa102426f8702943a88e83", func := "koine/koinelaw29.PatchSections", spec := "patchSections", inPlace := ["internal/abi.NoEscape", "internal/bytealg.CountString", "internal/bytealg.IndexByteString", "internal/bytealg.IndexString", "internal/bytealg.MakeNoZero"], unfollowed := true, recurses := true, named := ["unicode/utf8.first", "unicode/utf8.acceptRanges", "internal/bytealg.MaxLen"], plainKeys := false, apart := false, laid := [("unicode/utf8.acceptRanges", laid_unicode_utf8_acceptRanges), ("unicode/utf8.first", laid_unicode_utf8_first)] }
def PatchSectionsSaid : Prop := patchSectionsRow.holds Tryz.pinned (OpenSpec.ofChange patchSectionsSpec)

/-- ITS FALSE NEIGHBOUR: 'it returns false'. Refute it at one input. -/
def patchSectionsWrong : ChangeSpec := { name := "patchSections", fn := fun _ => fun
  | [d1, d2] => { results := [.lit (.bool false)], args := [d1, d2] }
  | _ => none }
def PatchSectionsWrongFalsely : Prop := patchSectionsRow.holds Tryz.pinned (OpenSpec.ofChange patchSectionsWrong)

/-- 'koinelaw29.PatchWeavesLikeReference': WHATEVER THE INPUT: true; the input reads as it did. -/
def patchWeavesLikeReferenceSpec : ChangeSpec := { name := "patchWeavesLikeReference", fn := fun _ => fun
  | [d1, d2, d3] => { results := [.lit (.bool true)], args := [d1, d2, d3] }
  | _ => none }
def patchWeavesLikeReferenceRow : OpenClaim := { program := "ytjabbbcdgmlojaagreatdoor", sum := "021083e794336a2a46e31bb85c9e87ea07904166d6fa102426f8702943a88e83", func := "koine/koinelaw29.PatchWeavesLikeReference", spec := "patchWeavesLikeReference", inPlace := ["internal/abi.NoEscape", "internal/bytealg.CountString", "internal/bytealg.IndexByteString", "internal/bytealg.IndexString", "internal/bytealg.MakeNoZero"], unfollowed := true, recurses := true, named := ["unicode/utf8.first", "unicode/utf8.acceptRanges", "internal/bytealg.MaxLen"], plainKeys := false, apart := false, laid := [("unicode/utf8.acceptRanges", laid_unicode_utf8_acceptRanges), ("unicode/utf8.first", laid_unicode_utf8_first)] }
def PatchWeavesLikeReferenceSaid : Prop := patchWeavesLikeReferenceRow.holds Tryz.pinned (OpenSpec.ofChange patchWeavesLikeReferenceSpec)

/-- ITS FALSE NEIGHBOUR: 'it returns false'. Refute it at one input. -/
def patchWeavesLikeReferenceWrong : ChangeSpec := { name := "patchWeavesLikeReference", fn := fun _ => fun
  | [d1, d2, d3] => { results := [.lit (.bool false)], args := [d1, d2, d3] }
  | _ => none }
def PatchWeavesLikeReferenceWrongFalsely : Prop := patchWeavesLikeReferenceRow.holds Tryz.pinned (OpenSpec.ofChange patchWeavesLikeReferenceWrong)

/-- 'koinelaw29.PatchAppliesLikeReference': WHATEVER THE INPUT: true; the input reads as it did. -/
def patchAppliesLikeReferenceSpec : ChangeSpec := { name := "patchAppliesLikeReference", fn := fun _ => fun
  | [d1, d2, d3] => { results := [.lit (.bool true)], args := [d1, d2, d3] }
  | _ => none }
def patchAppliesLikeReferenceRow : OpenClaim := { program := "ytjabbbcdgmlojaagreatdoor", sum := "021083e794336a2a46e31bb85c9e87ea07904166d6fa102426f8702943a88e83", func := "koine/koinelaw29.PatchAppliesLikeReference", spec := "patchAppliesLikeReference", inPlace := ["internal/abi.NoEscape", "internal/bytealg.CountString", "internal/bytealg.IndexByteString", "internal/bytealg.IndexString", "internal/bytealg.MakeNoZero"], unfollowed := true, recurses := true, named := ["unicode/utf8.first", "unicode/utf8.acceptRanges", "internal/bytealg.MaxLen"], plainKeys := false, apart := false, laid := [("unicode/utf8.acceptRanges", laid_unicode_utf8_acceptRanges), ("unicode/utf8.first", laid_unicode_utf8_first)] }
def PatchAppliesLikeReferenceSaid : Prop := patchAppliesLikeReferenceRow.holds Tryz.pinned (OpenSpec.ofChange patchAppliesLikeReferenceSpec)

/-- ITS FALSE NEIGHBOUR: 'it returns false'. Refute it at one input. -/
def patchAppliesLikeReferenceWrong : ChangeSpec := { name := "patchAppliesLikeReference", fn := fun _ => fun
  | [d1, d2, d3] => { results := [.lit (.bool false)], args := [d1, d2, d3] }
  | _ => none }
def PatchAppliesLikeReferenceWrongFalsely : Prop := patchAppliesLikeReferenceRow.holds Tryz.pinned (OpenSpec.ofChange patchAppliesLikeReferenceWrong)

/-- 'koinelaw29.PatchOrder': WHATEVER THE INPUT: true; the input reads as it did. -/
def patchOrderSpec : ChangeSpec := { name := "patchOrder", fn := fun _ => fun
  | [d1, d2] => { results := [.lit (.bool true)], args := [d1, d2] }
  | _ => none }
def patchOrderRow : OpenClaim := { program := "ytjabbbcdgmlojaagreatdoor", sum := "021083e794336a2a46e31bb85c9e87ea07904166d6fa102426f8702943a88e83", func := "koine/koinelaw29.PatchOrder", spec := "patchOrder", inPlace := ["internal/abi.NoEscape", "internal/bytealg.CountString", "internal/bytealg.IndexByteString", "internal/bytealg.IndexString", "internal/bytealg.MakeNoZero"], unfollowed := true, recurses := true, named := ["unicode/utf8.first", "unicode/utf8.acceptRanges", "internal/bytealg.MaxLen"], plainKeys := false, apart := false, laid := [("unicode/utf8.acceptRanges", laid_unicode_utf8_acceptRanges), ("unicode/utf8.first", laid_unicode_utf8_first)] }
def PatchOrderSaid : Prop := patchOrderRow.holds Tryz.pinned (OpenSpec.ofChange patchOrderSpec)

/-- ITS FALSE NEIGHBOUR: 'it returns false'. Refute it at one input. -/
def patchOrderWrong : ChangeSpec := { name := "patchOrder", fn := fun _ => fun
  | [d1, d2] => { results := [.lit (.bool false)], args := [d1, d2] }
  | _ => none }
def PatchOrderWrongFalsely : Prop := patchOrderRow.holds Tryz.pinned (OpenSpec.ofChange patchOrderWrong)

/-- 'koinelaw29.PatchShares': WHATEVER THE INPUT: true; the input reads as it did. -/
def patchSharesSpec : ChangeSpec := { name := "patchShares", fn := fun _ => fun
  | [d] => { results := [.lit (.bool true)], args := [d] }
  | _ => none }
def patchSharesRow : OpenClaim := { program := "ytjabbbcdgmlojaagreatdoor", sum := "021083e794336a2a46e31bb85c9e87ea07904166d6fa102426f8702943a88e83", func := "koine/koinelaw29.PatchShares", spec := "patchShares", inPlace := ["internal/abi.NoEscape", "internal/bytealg.CountString", "internal/bytealg.IndexByteString", "internal/bytealg.IndexString", "internal/bytealg.MakeNoZero"], unfollowed := true, recurses := true, named := ["unicode/utf8.first", "unicode/utf8.acceptRanges", "internal/bytealg.MaxLen"], plainKeys := false, apart := false, laid := [("unicode/utf8.acceptRanges", laid_unicode_utf8_acceptRanges), ("unicode/utf8.first", laid_unicode_utf8_first)] }
def PatchSharesSaid : Prop := patchSharesRow.holds Tryz.pinned (OpenSpec.ofChange patchSharesSpec)

/-- ITS FALSE NEIGHBOUR: 'it returns false'. Refute it at one input. -/
def patchSharesWrong : ChangeSpec := { name := "patchShares", fn := fun _ => fun
  | [d] => { results := [.lit (.bool false)], args := [d] }
  | _ => none }
def PatchSharesWrongFalsely : Prop := patchSharesRow.holds Tryz.pinned (OpenSpec.ofChange patchSharesWrong)

/-- 'koinelaw29.PatchKeeps': WHATEVER THE INPUT: true; the input reads as it did. -/
def patchKeepsSpec : ChangeSpec := { name := "patchKeeps", fn := fun _ => fun
  | [d] => { results := [.lit (.bool true)], args := [d] }
  | _ => none }
def patchKeepsRow : OpenClaim := { program := "ytjabbbcdgmlojaagreatdoor", sum := "021083e794336a2a46e31bb85c9e87ea07904166d6fa102426f8702943a88e83", func := "koine/koinelaw29.PatchKeeps", spec := "patchKeeps", inPlace := ["internal/abi.NoEscape", "internal/bytealg.CountString", "internal/bytealg.IndexByteString", "internal/bytealg.IndexString", "internal/bytealg.MakeNoZero"], unfollowed := true, recurses := true, named := ["unicode/utf8.first", "unicode/utf8.acceptRanges", "internal/bytealg.MaxLen"], plainKeys := false, apart := false, laid := [("unicode/utf8.acceptRanges", laid_unicode_utf8_acceptRanges), ("unicode/utf8.first", laid_unicode_utf8_first)] }
def PatchKeepsSaid : Prop := patchKeepsRow.holds Tryz.pinned (OpenSpec.ofChange patchKeepsSpec)

/-- ITS FALSE NEIGHBOUR: 'it returns false'. Refute it at one input. -/
def patchKeepsWrong : ChangeSpec := { name := "patchKeeps", fn := fun _ => fun
  | [d] => { results := [.lit (.bool false)], args := [d] }
  | _ => none }
def PatchKeepsWrongFalsely : Prop := patchKeepsRow.holds Tryz.pinned (OpenSpec.ofChange patchKeepsWrong)

/-- 'koinelaw29.PatchWeaves': WHATEVER THE INPUT: true; the input reads as it did. -/
def patchWeavesSpec : ChangeSpec := { name := "patchWeaves", fn := fun _ => fun
  | [d1, d2] => { results := [.lit (.bool true)], args := [d1, d2] }
  | _ => none }
def patchWeavesRow : OpenClaim := { program := "ytjabbbcdgmlojaagreatdoor", sum := "021083e794336a2a46e31bb85c9e87ea07904166d6fa102426f8702943a88e83", func := "koine/koinelaw29.PatchWeaves", spec := "patchWeaves", inPlace := ["internal/abi.NoEscape", "internal/bytealg.CountString", "internal/bytealg.IndexByteString", "internal/bytealg.IndexString", "internal/bytealg.MakeNoZero"], unfollowed := true, recurses := true, named := ["unicode/utf8.first", "unicode/utf8.acceptRanges", "internal/bytealg.MaxLen"], plainKeys := false, apart := false, laid := [("unicode/utf8.acceptRanges", laid_unicode_utf8_acceptRanges), ("unicode/utf8.first", laid_unicode_utf8_first)] }
def PatchWeavesSaid : Prop := patchWeavesRow.holds Tryz.pinned (OpenSpec.ofChange patchWeavesSpec)

/-- ITS FALSE NEIGHBOUR: 'it returns false'. Refute it at one input. -/
def patchWeavesWrong : ChangeSpec := { name := "patchWeaves", fn := fun _ => fun
  | [d1, d2] => { results := [.lit (.bool false)], args := [d1, d2] }
  | _ => none }
def PatchWeavesWrongFalsely : Prop := patchWeavesRow.holds Tryz.pinned (OpenSpec.ofChange patchWeavesWrong)

/- THE SECOND FORM. 'bulk': how many values and letters a reading holds, each counted each time it is reached (what is shared counts as often as it is met; a slice's spare places count too). A statement '..UptoSaid' is the law's where the arguments, and the package variables that the reading takes, are together of bulk at most 1048576: NARROWER than '..Said'. Prove '..Said' where nothing that the law and all that it calls make is longer than what came in: it says more and counts as full. Else prove '..UptoSaid'. A law counts once. -/
mutual
def uptoBulk {H : Type} : DataW H → Nat
  | .lit (.string bytes) => bytes.length + 1
  | .lit _ => 1
  | .nil => 1
  | .ptr d => uptoBulk d + 1
  | .slice elems spare => uptoBulkAll elems + uptoBulkAll spare + 1
  | .agg parts => uptoBulkAll parts + 1
  | .iface _ d => uptoBulk d + 1
  | .map entries => uptoBulkEntries entries + 1
  | .held _ => 1
def uptoBulkAll {H : Type} : List (DataW H) → Nat
  | [] => 0
  | d :: r => uptoBulk d + uptoBulkAll r
def uptoBulkEntries {H : Type} : List (Lit × DataW H) → Nat
  | [] => 0
  | x :: r => uptoBulkEntry x + uptoBulkEntries r
def uptoBulkEntry {H : Type} : Lit × DataW H → Nat
  | (.string bytes, d) => bytes.length + uptoBulk d + 1
  | (_, d) => uptoBulk d + 1
 end
def uptoSmall : (H : Type) → List (DataW H) → Bool := fun _ ds => decide (uptoBulkAll ds ≤ 1048576)
def OpenSpec.upto (s : _root_.Go.ChangeSpec) : _root_.Go.OpenSpec := { _root_.Go.OpenSpec.ofChange s with cond := some uptoSmall }

/-- 'koinelaw29.PatchEdits', WHERE WHAT IT READS IS OF BULK AT MOST 1048576: true; the input reads as it did. -/
def patchEditsUptoRow : OpenClaim := { program := "ytjabbbcdgmlojaagreatdoor", sum := "021083e794336a2a46e31bb85c9e87ea07904166d6fa102426f8702943a88e83", func := "koine/koinelaw29.PatchEdits", spec := "patchEdits", inPlace := ["internal/abi.NoEscape", "internal/bytealg.CountString", "internal/bytealg.IndexByteString", "internal/bytealg.IndexString", "internal/bytealg.MakeNoZero"], unfollowed := true, recurses := true, named := ["unicode/utf8.first", "unicode/utf8.acceptRanges", "internal/bytealg.MaxLen"], plainKeys := false, apart := false, laid := [("unicode/utf8.acceptRanges", laid_unicode_utf8_acceptRanges), ("unicode/utf8.first", laid_unicode_utf8_first)], narrowed := true }
def PatchEditsUptoSaid : Prop := patchEditsUptoRow.holds Tryz.pinned (OpenSpec.upto patchEditsSpec)

/-- 'koinelaw29.PatchSections', WHERE WHAT IT READS IS OF BULK AT MOST 1048576: true; the input reads as it did. -/
def patchSectionsUptoRow : OpenClaim := { program := "ytjabbbcdgmlojaagreatdoor", sum := "021083e794336a2a46e31bb85c9e87ea07904166d6fa102426f8702943a88e83", func := "koine/koinelaw29.PatchSections", spec := "patchSections", inPlace := ["internal/abi.NoEscape", "internal/bytealg.CountString", "internal/bytealg.IndexByteString", "internal/bytealg.IndexString", "internal/bytealg.MakeNoZero"], unfollowed := true, recurses := true, named := ["unicode/utf8.first", "unicode/utf8.acceptRanges", "internal/bytealg.MaxLen"], plainKeys := false, apart := false, laid := [("unicode/utf8.acceptRanges", laid_unicode_utf8_acceptRanges), ("unicode/utf8.first", laid_unicode_utf8_first)], narrowed := true }
def PatchSectionsUptoSaid : Prop := patchSectionsUptoRow.holds Tryz.pinned (OpenSpec.upto patchSectionsSpec)

/-- 'koinelaw29.PatchWeavesLikeReference', WHERE WHAT IT READS IS OF BULK AT MOST 1048576: true; the input reads as it did. -/
def patchWeavesLikeReferenceUptoRow : OpenClaim := { program := "ytjabbbcdgmlojaagreatdoor", sum := "021083e794336a2a46e31bb85c9e87ea07904166d6fa102426f8702943a88e83", func := "koine/koinelaw29.PatchWeavesLikeReference", spec := "patchWeavesLikeReference", inPlace := ["internal/abi.NoEscape", "internal/bytealg.CountString", "internal/bytealg.IndexByteString", "internal/bytealg.IndexString", "internal/bytealg.MakeNoZero"], unfollowed := true, recurses := true, named := ["unicode/utf8.first", "unicode/utf8.acceptRanges", "internal/bytealg.MaxLen"], plainKeys := false, apart := false, laid := [("unicode/utf8.acceptRanges", laid_unicode_utf8_acceptRanges), ("unicode/utf8.first", laid_unicode_utf8_first)], narrowed := true }
def PatchWeavesLikeReferenceUptoSaid : Prop := patchWeavesLikeReferenceUptoRow.holds Tryz.pinned (OpenSpec.upto patchWeavesLikeReferenceSpec)

/-- 'koinelaw29.PatchAppliesLikeReference', WHERE WHAT IT READS IS OF BULK AT MOST 1048576: true; the input reads as it did. -/
def patchAppliesLikeReferenceUptoRow : OpenClaim := { program := "ytjabbbcdgmlojaagreatdoor", sum := "021083e794336a2a46e31bb85c9e87ea07904166d6fa102426f8702943a88e83", func := "koine/koinelaw29.PatchAppliesLikeReference", spec := "patchAppliesLikeReference", inPlace := ["internal/abi.NoEscape", "internal/bytealg.CountString", "internal/bytealg.IndexByteString", "internal/bytealg.IndexString", "internal/bytealg.MakeNoZero"], unfollowed := true, recurses := true, named := ["unicode/utf8.first", "unicode/utf8.acceptRanges", "internal/bytealg.MaxLen"], plainKeys := false, apart := false, laid := [("unicode/utf8.acceptRanges", laid_unicode_utf8_acceptRanges), ("unicode/utf8.first", laid_unicode_utf8_first)], narrowed := true }
def PatchAppliesLikeReferenceUptoSaid : Prop := patchAppliesLikeReferenceUptoRow.holds Tryz.pinned (OpenSpec.upto patchAppliesLikeReferenceSpec)

/-- 'koinelaw29.PatchOrder', WHERE WHAT IT READS IS OF BULK AT MOST 1048576: true; the input reads as it did. -/
def patchOrderUptoRow : OpenClaim := { program := "ytjabbbcdgmlojaagreatdoor", sum := "021083e794336a2a46e31bb85c9e87ea07904166d6fa102426f8702943a88e83", func := "koine/koinelaw29.PatchOrder", spec := "patchOrder", inPlace := ["internal/abi.NoEscape", "internal/bytealg.CountString", "internal/bytealg.IndexByteString", "internal/bytealg.IndexString", "internal/bytealg.MakeNoZero"], unfollowed := true, recurses := true, named := ["unicode/utf8.first", "unicode/utf8.acceptRanges", "internal/bytealg.MaxLen"], plainKeys := false, apart := false, laid := [("unicode/utf8.acceptRanges", laid_unicode_utf8_acceptRanges), ("unicode/utf8.first", laid_unicode_utf8_first)], narrowed := true }
def PatchOrderUptoSaid : Prop := patchOrderUptoRow.holds Tryz.pinned (OpenSpec.upto patchOrderSpec)

/-- 'koinelaw29.PatchShares', WHERE WHAT IT READS IS OF BULK AT MOST 1048576: true; the input reads as it did. -/
def patchSharesUptoRow : OpenClaim := { program := "ytjabbbcdgmlojaagreatdoor", sum := "021083e794336a2a46e31bb85c9e87ea07904166d6fa102426f8702943a88e83", func := "koine/koinelaw29.PatchShares", spec := "patchShares", inPlace := ["internal/abi.NoEscape", "internal/bytealg.CountString", "internal/bytealg.IndexByteString", "internal/bytealg.IndexString", "internal/bytealg.MakeNoZero"], unfollowed := true, recurses := true, named := ["unicode/utf8.first", "unicode/utf8.acceptRanges", "internal/bytealg.MaxLen"], plainKeys := false, apart := false, laid := [("unicode/utf8.acceptRanges", laid_unicode_utf8_acceptRanges), ("unicode/utf8.first", laid_unicode_utf8_first)], narrowed := true }
def PatchSharesUptoSaid : Prop := patchSharesUptoRow.holds Tryz.pinned (OpenSpec.upto patchSharesSpec)

/-- 'koinelaw29.PatchKeeps', WHERE WHAT IT READS IS OF BULK AT MOST 1048576: true; the input reads as it did. -/
def patchKeepsUptoRow : OpenClaim := { program := "ytjabbbcdgmlojaagreatdoor", sum := "021083e794336a2a46e31bb85c9e87ea07904166d6fa102426f8702943a88e83", func := "koine/koinelaw29.PatchKeeps", spec := "patchKeeps", inPlace := ["internal/abi.NoEscape", "internal/bytealg.CountString", "internal/bytealg.IndexByteString", "internal/bytealg.IndexString", "internal/bytealg.MakeNoZero"], unfollowed := true, recurses := true, named := ["unicode/utf8.first", "unicode/utf8.acceptRanges", "internal/bytealg.MaxLen"], plainKeys := false, apart := false, laid := [("unicode/utf8.acceptRanges", laid_unicode_utf8_acceptRanges), ("unicode/utf8.first", laid_unicode_utf8_first)], narrowed := true }
def PatchKeepsUptoSaid : Prop := patchKeepsUptoRow.holds Tryz.pinned (OpenSpec.upto patchKeepsSpec)

/-- 'koinelaw29.PatchWeaves', WHERE WHAT IT READS IS OF BULK AT MOST 1048576: true; the input reads as it did. -/
def patchWeavesUptoRow : OpenClaim := { program := "ytjabbbcdgmlojaagreatdoor", sum := "021083e794336a2a46e31bb85c9e87ea07904166d6fa102426f8702943a88e83", func := "koine/koinelaw29.PatchWeaves", spec := "patchWeaves", inPlace := ["internal/abi.NoEscape", "internal/bytealg.CountString", "internal/bytealg.IndexByteString", "internal/bytealg.IndexString", "internal/bytealg.MakeNoZero"], unfollowed := true, recurses := true, named := ["unicode/utf8.first", "unicode/utf8.acceptRanges", "internal/bytealg.MaxLen"], plainKeys := false, apart := false, laid := [("unicode/utf8.acceptRanges", laid_unicode_utf8_acceptRanges), ("unicode/utf8.first", laid_unicode_utf8_first)], narrowed := true }
def PatchWeavesUptoSaid : Prop := patchWeavesUptoRow.holds Tryz.pinned (OpenSpec.upto patchWeavesSpec)

end Rows
end Go.Proofs.YtjabbbcdgmlojaaGreatDoor
