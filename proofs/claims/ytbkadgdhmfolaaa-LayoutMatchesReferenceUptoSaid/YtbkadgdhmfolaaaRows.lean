/-
  No cell of these rows narrows 'for every input' (looked for: loops, veiled, ifaces, maps, wideKeys, modest, calm, conditions, laid).
  DERIVED. THE GIVEN ROWS OF THIS SEAT. 8 by the template 'for every input the law returns true; each argument reads behind the call as it read before'; 0 by the template 'total and deterministic' (their statements: YtbkadgdhmfolaaaTotals.lean).
  GIVEN WITH THE SEED: the statements are not yours to turn. If you find one false, say at which input.
  Laid BY PROGRAM, IN A SANDBOX (cutbox-rows.mjs): the forced cells as the released guide's own fill.sh prints them over the translation b0907430ef677ba2… (all of the seat's roots in one cut). By AI agents, Wed Nov 11 2026. No macro, syntax, notation, axiom, sorry.
-/
import Derived.Test.YtbkadgdhmfolaaaChecked
import GoSem.Claim
import GoSem.ClaimJoined
import GoSem.ClaimMapViews
import Derived.JoinedTies
import Derived.KernelRfl
namespace Go.Proofs.Ytbkadgdhmfolaaa
/- THE CELL 'sum', in the pinned program and in every row, IS THE sha256 OF THE DUMP (.gsa) THAT YtbkadgdhmfolaaaProg.lean LOADS. Nothing in Lean hashes anything: it is a label: what it is worth is what the hold of that sum in a sandbox is worth. -/
noncomputable def Try.pinned : Pinned := { name := "ytbkadgdhmfolaaa", sum := "b0907430ef677ba25468ef35646334b21bf7edf9d90165b5aaa87700f0326895", checked := Try.checked }
namespace Rows
def none {H : Type} : Left H := { results := [], args := [] }

/-- 'koinelaw26.LayoutMatchesReference': WHATEVER THE INPUT: true; the input reads as it did. -/
def layoutMatchesReferenceSpec : ChangeSpec := { name := "layoutMatchesReference", fn := fun _ => fun
  | [d1, d2] => { results := [.lit (.bool true)], args := [d1, d2] }
  | _ => none }
def layoutMatchesReferenceRow : OpenClaim := { program := "ytbkadgdhmfolaaa", sum := "b0907430ef677ba25468ef35646334b21bf7edf9d90165b5aaa87700f0326895", func := "koine/koinelaw26.LayoutMatchesReference", spec := "layoutMatchesReference", inPlace := ["internal/bytealg.IndexByteString", "internal/bytealg.IndexString", "internal/abi.NoEscape", "internal/bytealg.MakeNoZero"], unfollowed := true, recurses := true, named := ["internal/bytealg.MaxLen"], plainKeys := false, apart := false }
def LayoutMatchesReferenceSaid : Prop := layoutMatchesReferenceRow.holds Try.pinned (OpenSpec.ofChange layoutMatchesReferenceSpec)

/-- ITS FALSE NEIGHBOUR: 'it returns false'. Refute it at one input. -/
def layoutMatchesReferenceWrong : ChangeSpec := { name := "layoutMatchesReference", fn := fun _ => fun
  | [d1, d2] => { results := [.lit (.bool false)], args := [d1, d2] }
  | _ => none }
def LayoutMatchesReferenceWrongFalsely : Prop := layoutMatchesReferenceRow.holds Try.pinned (OpenSpec.ofChange layoutMatchesReferenceWrong)

/-- 'koinelaw26.LayoutMadeMatchesReference': WHATEVER THE INPUT: true; the input reads as it did. -/
def layoutMadeMatchesReferenceSpec : ChangeSpec := { name := "layoutMadeMatchesReference", fn := fun _ => fun
  | [d1, d2] => { results := [.lit (.bool true)], args := [d1, d2] }
  | _ => none }
def layoutMadeMatchesReferenceRow : OpenClaim := { program := "ytbkadgdhmfolaaa", sum := "b0907430ef677ba25468ef35646334b21bf7edf9d90165b5aaa87700f0326895", func := "koine/koinelaw26.LayoutMadeMatchesReference", spec := "layoutMadeMatchesReference", inPlace := ["internal/bytealg.IndexByteString", "internal/bytealg.IndexString", "internal/abi.NoEscape", "internal/bytealg.MakeNoZero"], unfollowed := true, recurses := true, named := ["internal/bytealg.MaxLen"], plainKeys := false, apart := false }
def LayoutMadeMatchesReferenceSaid : Prop := layoutMadeMatchesReferenceRow.holds Try.pinned (OpenSpec.ofChange layoutMadeMatchesReferenceSpec)

/-- ITS FALSE NEIGHBOUR: 'it returns false'. Refute it at one input. -/
def layoutMadeMatchesReferenceWrong : ChangeSpec := { name := "layoutMadeMatchesReference", fn := fun _ => fun
  | [d1, d2] => { results := [.lit (.bool false)], args := [d1, d2] }
  | _ => none }
def LayoutMadeMatchesReferenceWrongFalsely : Prop := layoutMadeMatchesReferenceRow.holds Try.pinned (OpenSpec.ofChange layoutMadeMatchesReferenceWrong)

/-- 'koinelaw26.LayoutLeast': WHATEVER THE INPUT: true; the input reads as it did. -/
def layoutLeastSpec : ChangeSpec := { name := "layoutLeast", fn := fun _ => fun
  | [d1, d2, d3] => { results := [.lit (.bool true)], args := [d1, d2, d3] }
  | _ => none }
def layoutLeastRow : OpenClaim := { program := "ytbkadgdhmfolaaa", sum := "b0907430ef677ba25468ef35646334b21bf7edf9d90165b5aaa87700f0326895", func := "koine/koinelaw26.LayoutLeast", spec := "layoutLeast", inPlace := ["internal/bytealg.IndexByteString", "internal/bytealg.IndexString", "internal/abi.NoEscape", "internal/bytealg.MakeNoZero"], unfollowed := true, recurses := true, named := ["internal/bytealg.MaxLen"], plainKeys := false, apart := false }
def LayoutLeastSaid : Prop := layoutLeastRow.holds Try.pinned (OpenSpec.ofChange layoutLeastSpec)

/-- ITS FALSE NEIGHBOUR: 'it returns false'. Refute it at one input. -/
def layoutLeastWrong : ChangeSpec := { name := "layoutLeast", fn := fun _ => fun
  | [d1, d2, d3] => { results := [.lit (.bool false)], args := [d1, d2, d3] }
  | _ => none }
def LayoutLeastWrongFalsely : Prop := layoutLeastRow.holds Try.pinned (OpenSpec.ofChange layoutLeastWrong)

/-- 'koinelaw26.LayoutFlat': WHATEVER THE INPUT: true; the input reads as it did. -/
def layoutFlatSpec : ChangeSpec := { name := "layoutFlat", fn := fun _ => fun
  | [d1, d2] => { results := [.lit (.bool true)], args := [d1, d2] }
  | _ => none }
def layoutFlatRow : OpenClaim := { program := "ytbkadgdhmfolaaa", sum := "b0907430ef677ba25468ef35646334b21bf7edf9d90165b5aaa87700f0326895", func := "koine/koinelaw26.LayoutFlat", spec := "layoutFlat", inPlace := ["internal/bytealg.IndexByteString", "internal/bytealg.IndexString", "internal/abi.NoEscape", "internal/bytealg.MakeNoZero"], unfollowed := true, recurses := true, named := ["internal/bytealg.MaxLen"], plainKeys := false, apart := false }
def LayoutFlatSaid : Prop := layoutFlatRow.holds Try.pinned (OpenSpec.ofChange layoutFlatSpec)

/-- ITS FALSE NEIGHBOUR: 'it returns false'. Refute it at one input. -/
def layoutFlatWrong : ChangeSpec := { name := "layoutFlat", fn := fun _ => fun
  | [d1, d2] => { results := [.lit (.bool false)], args := [d1, d2] }
  | _ => none }
def LayoutFlatWrongFalsely : Prop := layoutFlatRow.holds Try.pinned (OpenSpec.ofChange layoutFlatWrong)

/-- 'koinelaw26.LayoutWidths': WHATEVER THE INPUT: true; the input reads as it did. -/
def layoutWidthsSpec : ChangeSpec := { name := "layoutWidths", fn := fun _ => fun
  | [d1, d2, d3] => { results := [.lit (.bool true)], args := [d1, d2, d3] }
  | _ => none }
def layoutWidthsRow : OpenClaim := { program := "ytbkadgdhmfolaaa", sum := "b0907430ef677ba25468ef35646334b21bf7edf9d90165b5aaa87700f0326895", func := "koine/koinelaw26.LayoutWidths", spec := "layoutWidths", inPlace := ["internal/bytealg.IndexByteString", "internal/bytealg.IndexString", "internal/abi.NoEscape", "internal/bytealg.MakeNoZero"], unfollowed := true, recurses := true, named := ["internal/bytealg.MaxLen"], plainKeys := false, apart := false }
def LayoutWidthsSaid : Prop := layoutWidthsRow.holds Try.pinned (OpenSpec.ofChange layoutWidthsSpec)

/-- ITS FALSE NEIGHBOUR: 'it returns false'. Refute it at one input. -/
def layoutWidthsWrong : ChangeSpec := { name := "layoutWidths", fn := fun _ => fun
  | [d1, d2, d3] => { results := [.lit (.bool false)], args := [d1, d2, d3] }
  | _ => none }
def LayoutWidthsWrongFalsely : Prop := layoutWidthsRow.holds Try.pinned (OpenSpec.ofChange layoutWidthsWrong)

/-- 'koinelaw26.LayoutCongruence': WHATEVER THE INPUT: true; the input reads as it did. -/
def layoutCongruenceSpec : ChangeSpec := { name := "layoutCongruence", fn := fun _ => fun
  | [d1, d2] => { results := [.lit (.bool true)], args := [d1, d2] }
  | _ => none }
def layoutCongruenceRow : OpenClaim := { program := "ytbkadgdhmfolaaa", sum := "b0907430ef677ba25468ef35646334b21bf7edf9d90165b5aaa87700f0326895", func := "koine/koinelaw26.LayoutCongruence", spec := "layoutCongruence", inPlace := ["internal/bytealg.IndexByteString", "internal/bytealg.IndexString", "internal/abi.NoEscape", "internal/bytealg.MakeNoZero"], unfollowed := true, recurses := true, named := ["internal/bytealg.MaxLen"], plainKeys := false, apart := false }
def LayoutCongruenceSaid : Prop := layoutCongruenceRow.holds Try.pinned (OpenSpec.ofChange layoutCongruenceSpec)

/-- ITS FALSE NEIGHBOUR: 'it returns false'. Refute it at one input. -/
def layoutCongruenceWrong : ChangeSpec := { name := "layoutCongruence", fn := fun _ => fun
  | [d1, d2] => { results := [.lit (.bool false)], args := [d1, d2] }
  | _ => none }
def LayoutCongruenceWrongFalsely : Prop := layoutCongruenceRow.holds Try.pinned (OpenSpec.ofChange layoutCongruenceWrong)

/-- 'koinelaw26.LayoutLines': WHATEVER THE INPUT: true; the input reads as it did. -/
def layoutLinesSpec : ChangeSpec := { name := "layoutLines", fn := fun _ => fun
  | [d1, d2] => { results := [.lit (.bool true)], args := [d1, d2] }
  | _ => none }
def layoutLinesRow : OpenClaim := { program := "ytbkadgdhmfolaaa", sum := "b0907430ef677ba25468ef35646334b21bf7edf9d90165b5aaa87700f0326895", func := "koine/koinelaw26.LayoutLines", spec := "layoutLines", inPlace := ["internal/bytealg.IndexByteString", "internal/bytealg.IndexString", "internal/abi.NoEscape", "internal/bytealg.MakeNoZero"], unfollowed := true, recurses := true, named := ["internal/bytealg.MaxLen"], plainKeys := false, apart := false }
def LayoutLinesSaid : Prop := layoutLinesRow.holds Try.pinned (OpenSpec.ofChange layoutLinesSpec)

/-- ITS FALSE NEIGHBOUR: 'it returns false'. Refute it at one input. -/
def layoutLinesWrong : ChangeSpec := { name := "layoutLines", fn := fun _ => fun
  | [d1, d2] => { results := [.lit (.bool false)], args := [d1, d2] }
  | _ => none }
def LayoutLinesWrongFalsely : Prop := layoutLinesRow.holds Try.pinned (OpenSpec.ofChange layoutLinesWrong)

/-- 'koinelaw26.LayoutFills': WHATEVER THE INPUT: true; the input reads as it did. -/
def layoutFillsSpec : ChangeSpec := { name := "layoutFills", fn := fun _ => fun
  | [d1, d2] => { results := [.lit (.bool true)], args := [d1, d2] }
  | _ => none }
def layoutFillsRow : OpenClaim := { program := "ytbkadgdhmfolaaa", sum := "b0907430ef677ba25468ef35646334b21bf7edf9d90165b5aaa87700f0326895", func := "koine/koinelaw26.LayoutFills", spec := "layoutFills", inPlace := ["internal/bytealg.IndexByteString", "internal/bytealg.IndexString", "internal/abi.NoEscape", "internal/bytealg.MakeNoZero"], unfollowed := true, recurses := true, named := ["internal/bytealg.MaxLen"], plainKeys := false, apart := false }
def LayoutFillsSaid : Prop := layoutFillsRow.holds Try.pinned (OpenSpec.ofChange layoutFillsSpec)

/-- ITS FALSE NEIGHBOUR: 'it returns false'. Refute it at one input. -/
def layoutFillsWrong : ChangeSpec := { name := "layoutFills", fn := fun _ => fun
  | [d1, d2] => { results := [.lit (.bool false)], args := [d1, d2] }
  | _ => none }
def LayoutFillsWrongFalsely : Prop := layoutFillsRow.holds Try.pinned (OpenSpec.ofChange layoutFillsWrong)

/- THE SECOND FORM. 'bulk': how many values and letters a reading holds, each counted each time it is reached (what is shared counts as often as it is met; a slice's spare places count too). A statement '..UptoSaid' is the law's where the arguments, and the package variables that the reading takes, are together of bulk at most 1048576: NARROWER than '..Said'. Prove '..Said' where nothing that the law and all that it calls make is longer than what came in: it says more and counts as full. Else prove '..UptoSaid'. A law counts once. -/
mutual
def uptoBulk {H : Type} : DataW H → Nat
  | .lit (.string bytes) => bytes.length + 1
  | .lit _ => 1
  | .nil => 1
  | .ptr d => uptoBulk d + 1
  | .slice elems spare => uptoBulkAll elems + uptoBulkAll spare + 1
  | .agg parts => uptoBulkAll parts + 1
  | .iface _ d => uptoBulk d + 1
  | .map entries => uptoBulkEntries entries + 1
  | .held _ => 1
def uptoBulkAll {H : Type} : List (DataW H) → Nat
  | [] => 0
  | d :: r => uptoBulk d + uptoBulkAll r
def uptoBulkEntries {H : Type} : List (Lit × DataW H) → Nat
  | [] => 0
  | x :: r => uptoBulkEntry x + uptoBulkEntries r
def uptoBulkEntry {H : Type} : Lit × DataW H → Nat
  | (.string bytes, d) => bytes.length + uptoBulk d + 1
  | (_, d) => uptoBulk d + 1
 end
def uptoSmall : (H : Type) → List (DataW H) → Bool := fun _ ds => decide (uptoBulkAll ds ≤ 1048576)
def OpenSpec.upto (s : _root_.Go.ChangeSpec) : _root_.Go.OpenSpec := { _root_.Go.OpenSpec.ofChange s with cond := some uptoSmall }

/-- 'koinelaw26.LayoutMatchesReference', WHERE WHAT IT READS IS OF BULK AT MOST 1048576: true; the input reads as it did. -/
def layoutMatchesReferenceUptoRow : OpenClaim := { program := "ytbkadgdhmfolaaa", sum := "b0907430ef677ba25468ef35646334b21bf7edf9d90165b5aaa87700f0326895", func := "koine/koinelaw26.LayoutMatchesReference", spec := "layoutMatchesReference", inPlace := ["internal/bytealg.IndexByteString", "internal/bytealg.IndexString", "internal/abi.NoEscape", "internal/bytealg.MakeNoZero"], unfollowed := true, recurses := true, named := ["internal/bytealg.MaxLen"], plainKeys := false, apart := false, narrowed := true }
def LayoutMatchesReferenceUptoSaid : Prop := layoutMatchesReferenceUptoRow.holds Try.pinned (OpenSpec.upto layoutMatchesReferenceSpec)

/-- 'koinelaw26.LayoutMadeMatchesReference', WHERE WHAT IT READS IS OF BULK AT MOST 1048576: true; the input reads as it did. -/
def layoutMadeMatchesReferenceUptoRow : OpenClaim := { program := "ytbkadgdhmfolaaa", sum := "b0907430ef677ba25468ef35646334b21bf7edf9d90165b5aaa87700f0326895", func := "koine/koinelaw26.LayoutMadeMatchesReference", spec := "layoutMadeMatchesReference", inPlace := ["internal/bytealg.IndexByteString", "internal/bytealg.IndexString", "internal/abi.NoEscape", "internal/bytealg.MakeNoZero"], unfollowed := true, recurses := true, named := ["internal/bytealg.MaxLen"], plainKeys := false, apart := false, narrowed := true }
def LayoutMadeMatchesReferenceUptoSaid : Prop := layoutMadeMatchesReferenceUptoRow.holds Try.pinned (OpenSpec.upto layoutMadeMatchesReferenceSpec)

/-- 'koinelaw26.LayoutLeast', WHERE WHAT IT READS IS OF BULK AT MOST 1048576: true; the input reads as it did. -/
def layoutLeastUptoRow : OpenClaim := { program := "ytbkadgdhmfolaaa", sum := "b0907430ef677ba25468ef35646334b21bf7edf9d90165b5aaa87700f0326895", func := "koine/koinelaw26.LayoutLeast", spec := "layoutLeast", inPlace := ["internal/bytealg.IndexByteString", "internal/bytealg.IndexString", "internal/abi.NoEscape", "internal/bytealg.MakeNoZero"], unfollowed := true, recurses := true, named := ["internal/bytealg.MaxLen"], plainKeys := false, apart := false, narrowed := true }
def LayoutLeastUptoSaid : Prop := layoutLeastUptoRow.holds Try.pinned (OpenSpec.upto layoutLeastSpec)

/-- 'koinelaw26.LayoutFlat', WHERE WHAT IT READS IS OF BULK AT MOST 1048576: true; the input reads as it did. -/
def layoutFlatUptoRow : OpenClaim := { program := "ytbkadgdhmfolaaa", sum := "b0907430ef677ba25468ef35646334b21bf7edf9d90165b5aaa87700f0326895", func := "koine/koinelaw26.LayoutFlat", spec := "layoutFlat", inPlace := ["internal/bytealg.IndexByteString", "internal/bytealg.IndexString", "internal/abi.NoEscape", "internal/bytealg.MakeNoZero"], unfollowed := true, recurses := true, named := ["internal/bytealg.MaxLen"], plainKeys := false, apart := false, narrowed := true }
def LayoutFlatUptoSaid : Prop := layoutFlatUptoRow.holds Try.pinned (OpenSpec.upto layoutFlatSpec)

/-- 'koinelaw26.LayoutWidths', WHERE WHAT IT READS IS OF BULK AT MOST 1048576: true; the input reads as it did. -/
def layoutWidthsUptoRow : OpenClaim := { program := "ytbkadgdhmfolaaa", sum := "b0907430ef677ba25468ef35646334b21bf7edf9d90165b5aaa87700f0326895", func := "koine/koinelaw26.LayoutWidths", spec := "layoutWidths", inPlace := ["internal/bytealg.IndexByteString", "internal/bytealg.IndexString", "internal/abi.NoEscape", "internal/bytealg.MakeNoZero"], unfollowed := true, recurses := true, named := ["internal/bytealg.MaxLen"], plainKeys := false, apart := false, narrowed := true }
def LayoutWidthsUptoSaid : Prop := layoutWidthsUptoRow.holds Try.pinned (OpenSpec.upto layoutWidthsSpec)

/-- 'koinelaw26.LayoutCongruence', WHERE WHAT IT READS IS OF BULK AT MOST 1048576: true; the input reads as it did. -/
def layoutCongruenceUptoRow : OpenClaim := { program := "ytbkadgdhmfolaaa", sum := "b0907430ef677ba25468ef35646334b21bf7edf9d90165b5aaa87700f0326895", func := "koine/koinelaw26.LayoutCongruence", spec := "layoutCongruence", inPlace := ["internal/bytealg.IndexByteString", "internal/bytealg.IndexString", "internal/abi.NoEscape", "internal/bytealg.MakeNoZero"], unfollowed := true, recurses := true, named := ["internal/bytealg.MaxLen"], plainKeys := false, apart := false, narrowed := true }
def LayoutCongruenceUptoSaid : Prop := layoutCongruenceUptoRow.holds Try.pinned (OpenSpec.upto layoutCongruenceSpec)

/-- 'koinelaw26.LayoutLines', WHERE WHAT IT READS IS OF BULK AT MOST 1048576: true; the input reads as it did. -/
def layoutLinesUptoRow : OpenClaim := { program := "ytbkadgdhmfolaaa", sum := "b0907430ef677ba25468ef35646334b21bf7edf9d90165b5aaa87700f0326895", func := "koine/koinelaw26.LayoutLines", spec := "layoutLines", inPlace := ["internal/bytealg.IndexByteString", "internal/bytealg.IndexString", "internal/abi.NoEscape", "internal/bytealg.MakeNoZero"], unfollowed := true, recurses := true, named := ["internal/bytealg.MaxLen"], plainKeys := false, apart := false, narrowed := true }
def LayoutLinesUptoSaid : Prop := layoutLinesUptoRow.holds Try.pinned (OpenSpec.upto layoutLinesSpec)

/-- 'koinelaw26.LayoutFills', WHERE WHAT IT READS IS OF BULK AT MOST 1048576: true; the input reads as it did. -/
def layoutFillsUptoRow : OpenClaim := { program := "ytbkadgdhmfolaaa", sum := "b0907430ef677ba25468ef35646334b21bf7edf9d90165b5aaa87700f0326895", func := "koine/koinelaw26.LayoutFills", spec := "layoutFills", inPlace := ["internal/bytealg.IndexByteString", "internal/bytealg.IndexString", "internal/abi.NoEscape", "internal/bytealg.MakeNoZero"], unfollowed := true, recurses := true, named := ["internal/bytealg.MaxLen"], plainKeys := false, apart := false, narrowed := true }
def LayoutFillsUptoSaid : Prop := layoutFillsUptoRow.holds Try.pinned (OpenSpec.upto layoutFillsSpec)

end Rows
end Go.Proofs.Ytbkadgdhmfolaaa
