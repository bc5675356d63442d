/-
  No cell of these rows narrows 'for every input' (looked for: loops, veiled, ifaces, maps, wideKeys, modest, calm, conditions, laid).
  DERIVED. THE GIVEN ROWS OF THIS SEAT. 11 by the template 'for every input the law returns true; each argument reads behind the call as it read before'; 0 by the template 'total and deterministic' (their statements: YtpalpikenkkhlaaTotals.lean).
  GIVEN WITH THE SEED: the statements are not yours to turn. If you find one false, say at which input.
  Laid BY PROGRAM, IN A SANDBOX (cutbox-rows.mjs): the forced cells as the released guide's own fill.sh prints them over the translation 5500bc03ec701a12… (all of the seat's roots in one cut). By AI agents, Wed Nov 11 2026. No macro, syntax, notation, axiom, sorry.
-/
import Derived.Test.YtpalpikenkkhlaaChecked
import GoSem.Claim
import GoSem.ClaimJoined
import GoSem.ClaimMapViews
import Derived.JoinedTies
import Derived.KernelRfl
namespace Go.Proofs.Ytpalpikenkkhlaa
/- THE CELL 'sum', in the pinned program and in every row, IS THE sha256 OF THE DUMP (.gsa) THAT YtpalpikenkkhlaaProg.lean LOADS. Nothing in Lean hashes anything: it is a label: what it is worth is what the hold of that sum in a sandbox is worth. -/
noncomputable def Try.pinned : Pinned := { name := "ytpalpikenkkhlaa", sum := "5500bc03ec701a12acf2e18c1ef6f8222da735c9df07432eae4f3c88ff66024c", checked := Try.checked }
namespace Rows
def none {H : Type} : Left H := { results := [], args := [] }

/-- 'koinelaw01.NaturalTextMatchesReference': WHATEVER THE INPUT: true; the input reads as it did. -/
def naturalTextMatchesReferenceSpec : ChangeSpec := { name := "naturalTextMatchesReference", fn := fun _ => fun
  | [d1, d2] => { results := [.lit (.bool true)], args := [d1, d2] }
  | _ => none }
def naturalTextMatchesReferenceRow : OpenClaim := { program := "ytpalpikenkkhlaa", sum := "5500bc03ec701a12acf2e18c1ef6f8222da735c9df07432eae4f3c88ff66024c", func := "koine/koinelaw01.NaturalTextMatchesReference", spec := "naturalTextMatchesReference", apart := false }
def NaturalTextMatchesReferenceSaid : Prop := naturalTextMatchesReferenceRow.holds Try.pinned (OpenSpec.ofChange naturalTextMatchesReferenceSpec)

/-- ITS FALSE NEIGHBOUR: 'it returns false'. Refute it at one input. -/
def naturalTextMatchesReferenceWrong : ChangeSpec := { name := "naturalTextMatchesReference", fn := fun _ => fun
  | [d1, d2] => { results := [.lit (.bool false)], args := [d1, d2] }
  | _ => none }
def NaturalTextMatchesReferenceWrongFalsely : Prop := naturalTextMatchesReferenceRow.holds Try.pinned (OpenSpec.ofChange naturalTextMatchesReferenceWrong)

/-- 'koinelaw01.NaturalStrings': WHATEVER THE INPUT: true; the input reads as it did. -/
def naturalStringsSpec : ChangeSpec := { name := "naturalStrings", fn := fun _ => fun
  | [d] => { results := [.lit (.bool true)], args := [d] }
  | _ => none }
def naturalStringsRow : OpenClaim := { program := "ytpalpikenkkhlaa", sum := "5500bc03ec701a12acf2e18c1ef6f8222da735c9df07432eae4f3c88ff66024c", func := "koine/koinelaw01.NaturalStrings", spec := "naturalStrings", apart := false }
def NaturalStringsSaid : Prop := naturalStringsRow.holds Try.pinned (OpenSpec.ofChange naturalStringsSpec)

/-- ITS FALSE NEIGHBOUR: 'it returns false'. Refute it at one input. -/
def naturalStringsWrong : ChangeSpec := { name := "naturalStrings", fn := fun _ => fun
  | [d] => { results := [.lit (.bool false)], args := [d] }
  | _ => none }
def NaturalStringsWrongFalsely : Prop := naturalStringsRow.holds Try.pinned (OpenSpec.ofChange naturalStringsWrong)

/-- 'koinelaw01.NaturalRing': WHATEVER THE INPUT: true; the input reads as it did. -/
def naturalRingSpec : ChangeSpec := { name := "naturalRing", fn := fun _ => fun
  | [d1, d2, d3] => { results := [.lit (.bool true)], args := [d1, d2, d3] }
  | _ => none }
def naturalRingRow : OpenClaim := { program := "ytpalpikenkkhlaa", sum := "5500bc03ec701a12acf2e18c1ef6f8222da735c9df07432eae4f3c88ff66024c", func := "koine/koinelaw01.NaturalRing", spec := "naturalRing", apart := false }
def NaturalRingSaid : Prop := naturalRingRow.holds Try.pinned (OpenSpec.ofChange naturalRingSpec)

/-- ITS FALSE NEIGHBOUR: 'it returns false'. Refute it at one input. -/
def naturalRingWrong : ChangeSpec := { name := "naturalRing", fn := fun _ => fun
  | [d1, d2, d3] => { results := [.lit (.bool false)], args := [d1, d2, d3] }
  | _ => none }
def NaturalRingWrongFalsely : Prop := naturalRingRow.holds Try.pinned (OpenSpec.ofChange naturalRingWrong)

/-- 'koinelaw01.NaturalPowers': WHATEVER THE INPUT: true; the input reads as it did. -/
def naturalPowersSpec : ChangeSpec := { name := "naturalPowers", fn := fun _ => fun
  | [d] => { results := [.lit (.bool true)], args := [d] }
  | _ => none }
def naturalPowersRow : OpenClaim := { program := "ytpalpikenkkhlaa", sum := "5500bc03ec701a12acf2e18c1ef6f8222da735c9df07432eae4f3c88ff66024c", func := "koine/koinelaw01.NaturalPowers", spec := "naturalPowers", apart := false }
def NaturalPowersSaid : Prop := naturalPowersRow.holds Try.pinned (OpenSpec.ofChange naturalPowersSpec)

/-- ITS FALSE NEIGHBOUR: 'it returns false'. Refute it at one input. -/
def naturalPowersWrong : ChangeSpec := { name := "naturalPowers", fn := fun _ => fun
  | [d] => { results := [.lit (.bool false)], args := [d] }
  | _ => none }
def NaturalPowersWrongFalsely : Prop := naturalPowersRow.holds Try.pinned (OpenSpec.ofChange naturalPowersWrong)

/-- 'koinelaw01.NaturalOrder': WHATEVER THE INPUT: true; the input reads as it did. -/
def naturalOrderSpec : ChangeSpec := { name := "naturalOrder", fn := fun _ => fun
  | [d1, d2, d3] => { results := [.lit (.bool true)], args := [d1, d2, d3] }
  | _ => none }
def naturalOrderRow : OpenClaim := { program := "ytpalpikenkkhlaa", sum := "5500bc03ec701a12acf2e18c1ef6f8222da735c9df07432eae4f3c88ff66024c", func := "koine/koinelaw01.NaturalOrder", spec := "naturalOrder", apart := false }
def NaturalOrderSaid : Prop := naturalOrderRow.holds Try.pinned (OpenSpec.ofChange naturalOrderSpec)

/-- ITS FALSE NEIGHBOUR: 'it returns false'. Refute it at one input. -/
def naturalOrderWrong : ChangeSpec := { name := "naturalOrder", fn := fun _ => fun
  | [d1, d2, d3] => { results := [.lit (.bool false)], args := [d1, d2, d3] }
  | _ => none }
def NaturalOrderWrongFalsely : Prop := naturalOrderRow.holds Try.pinned (OpenSpec.ofChange naturalOrderWrong)

/-- 'koinelaw01.NaturalDivision': WHATEVER THE INPUT: true; the input reads as it did. -/
def naturalDivisionSpec : ChangeSpec := { name := "naturalDivision", fn := fun _ => fun
  | [d1, d2] => { results := [.lit (.bool true)], args := [d1, d2] }
  | _ => none }
def naturalDivisionRow : OpenClaim := { program := "ytpalpikenkkhlaa", sum := "5500bc03ec701a12acf2e18c1ef6f8222da735c9df07432eae4f3c88ff66024c", func := "koine/koinelaw01.NaturalDivision", spec := "naturalDivision", apart := false }
def NaturalDivisionSaid : Prop := naturalDivisionRow.holds Try.pinned (OpenSpec.ofChange naturalDivisionSpec)

/-- ITS FALSE NEIGHBOUR: 'it returns false'. Refute it at one input. -/
def naturalDivisionWrong : ChangeSpec := { name := "naturalDivision", fn := fun _ => fun
  | [d1, d2] => { results := [.lit (.bool false)], args := [d1, d2] }
  | _ => none }
def NaturalDivisionWrongFalsely : Prop := naturalDivisionRow.holds Try.pinned (OpenSpec.ofChange naturalDivisionWrong)

/-- 'koinelaw01.NaturalDecimal': WHATEVER THE INPUT: true; the input reads as it did. -/
def naturalDecimalSpec : ChangeSpec := { name := "naturalDecimal", fn := fun _ => fun
  | [d1, d2] => { results := [.lit (.bool true)], args := [d1, d2] }
  | _ => none }
def naturalDecimalRow : OpenClaim := { program := "ytpalpikenkkhlaa", sum := "5500bc03ec701a12acf2e18c1ef6f8222da735c9df07432eae4f3c88ff66024c", func := "koine/koinelaw01.NaturalDecimal", spec := "naturalDecimal", apart := false }
def NaturalDecimalSaid : Prop := naturalDecimalRow.holds Try.pinned (OpenSpec.ofChange naturalDecimalSpec)

/-- ITS FALSE NEIGHBOUR: 'it returns false'. Refute it at one input. -/
def naturalDecimalWrong : ChangeSpec := { name := "naturalDecimal", fn := fun _ => fun
  | [d1, d2] => { results := [.lit (.bool false)], args := [d1, d2] }
  | _ => none }
def NaturalDecimalWrongFalsely : Prop := naturalDecimalRow.holds Try.pinned (OpenSpec.ofChange naturalDecimalWrong)

/-- 'koinelaw01.NaturalLimits': WHATEVER THE INPUT: true; the input reads as it did. -/
def naturalLimitsSpec : ChangeSpec := { name := "naturalLimits", fn := fun _ => fun
  | [d1, d2, d3] => { results := [.lit (.bool true)], args := [d1, d2, d3] }
  | _ => none }
def naturalLimitsRow : OpenClaim := { program := "ytpalpikenkkhlaa", sum := "5500bc03ec701a12acf2e18c1ef6f8222da735c9df07432eae4f3c88ff66024c", func := "koine/koinelaw01.NaturalLimits", spec := "naturalLimits", apart := false }
def NaturalLimitsSaid : Prop := naturalLimitsRow.holds Try.pinned (OpenSpec.ofChange naturalLimitsSpec)

/-- ITS FALSE NEIGHBOUR: 'it returns false'. Refute it at one input. -/
def naturalLimitsWrong : ChangeSpec := { name := "naturalLimits", fn := fun _ => fun
  | [d1, d2, d3] => { results := [.lit (.bool false)], args := [d1, d2, d3] }
  | _ => none }
def NaturalLimitsWrongFalsely : Prop := naturalLimitsRow.holds Try.pinned (OpenSpec.ofChange naturalLimitsWrong)

/-- 'koinelaw01.NaturalDifferences': WHATEVER THE INPUT: true; the input reads as it did. -/
def naturalDifferencesSpec : ChangeSpec := { name := "naturalDifferences", fn := fun _ => fun
  | [d1, d2] => { results := [.lit (.bool true)], args := [d1, d2] }
  | _ => none }
def naturalDifferencesRow : OpenClaim := { program := "ytpalpikenkkhlaa", sum := "5500bc03ec701a12acf2e18c1ef6f8222da735c9df07432eae4f3c88ff66024c", func := "koine/koinelaw01.NaturalDifferences", spec := "naturalDifferences", apart := false }
def NaturalDifferencesSaid : Prop := naturalDifferencesRow.holds Try.pinned (OpenSpec.ofChange naturalDifferencesSpec)

/-- ITS FALSE NEIGHBOUR: 'it returns false'. Refute it at one input. -/
def naturalDifferencesWrong : ChangeSpec := { name := "naturalDifferences", fn := fun _ => fun
  | [d1, d2] => { results := [.lit (.bool false)], args := [d1, d2] }
  | _ => none }
def NaturalDifferencesWrongFalsely : Prop := naturalDifferencesRow.holds Try.pinned (OpenSpec.ofChange naturalDifferencesWrong)

/-- 'koinelaw01.NaturalMatchesReference': WHATEVER THE INPUT: true; the input reads as it did. -/
def naturalMatchesReferenceSpec : ChangeSpec := { name := "naturalMatchesReference", fn := fun _ => fun
  | [d1, d2, d3] => { results := [.lit (.bool true)], args := [d1, d2, d3] }
  | _ => none }
def naturalMatchesReferenceRow : OpenClaim := { program := "ytpalpikenkkhlaa", sum := "5500bc03ec701a12acf2e18c1ef6f8222da735c9df07432eae4f3c88ff66024c", func := "koine/koinelaw01.NaturalMatchesReference", spec := "naturalMatchesReference", apart := false }
def NaturalMatchesReferenceSaid : Prop := naturalMatchesReferenceRow.holds Try.pinned (OpenSpec.ofChange naturalMatchesReferenceSpec)

/-- ITS FALSE NEIGHBOUR: 'it returns false'. Refute it at one input. -/
def naturalMatchesReferenceWrong : ChangeSpec := { name := "naturalMatchesReference", fn := fun _ => fun
  | [d1, d2, d3] => { results := [.lit (.bool false)], args := [d1, d2, d3] }
  | _ => none }
def NaturalMatchesReferenceWrongFalsely : Prop := naturalMatchesReferenceRow.holds Try.pinned (OpenSpec.ofChange naturalMatchesReferenceWrong)

/-- 'koinelaw01.NaturalCanonical': WHATEVER THE INPUT: true; the input reads as it did. -/
def naturalCanonicalSpec : ChangeSpec := { name := "naturalCanonical", fn := fun _ => fun
  | [d1, d2, d3] => { results := [.lit (.bool true)], args := [d1, d2, d3] }
  | _ => none }
def naturalCanonicalRow : OpenClaim := { program := "ytpalpikenkkhlaa", sum := "5500bc03ec701a12acf2e18c1ef6f8222da735c9df07432eae4f3c88ff66024c", func := "koine/koinelaw01.NaturalCanonical", spec := "naturalCanonical", apart := false }
def NaturalCanonicalSaid : Prop := naturalCanonicalRow.holds Try.pinned (OpenSpec.ofChange naturalCanonicalSpec)

/-- ITS FALSE NEIGHBOUR: 'it returns false'. Refute it at one input. -/
def naturalCanonicalWrong : ChangeSpec := { name := "naturalCanonical", fn := fun _ => fun
  | [d1, d2, d3] => { results := [.lit (.bool false)], args := [d1, d2, d3] }
  | _ => none }
def NaturalCanonicalWrongFalsely : Prop := naturalCanonicalRow.holds Try.pinned (OpenSpec.ofChange naturalCanonicalWrong)

/- THE SECOND FORM. 'bulk': how many values and letters a reading holds, each counted each time it is reached (what is shared counts as often as it is met; a slice's spare places count too). A statement '..UptoSaid' is the law's where the arguments, and the package variables that the reading takes, are together of bulk at most 1048576: NARROWER than '..Said'. Prove '..Said' where nothing that the law and all that it calls make is longer than what came in: it says more and counts as full. Else prove '..UptoSaid'. A law counts once. -/
mutual
def uptoBulk {H : Type} : DataW H → Nat
  | .lit (.string bytes) => bytes.length + 1
  | .lit _ => 1
  | .nil => 1
  | .ptr d => uptoBulk d + 1
  | .slice elems spare => uptoBulkAll elems + uptoBulkAll spare + 1
  | .agg parts => uptoBulkAll parts + 1
  | .iface _ d => uptoBulk d + 1
  | .map entries => uptoBulkEntries entries + 1
  | .held _ => 1
def uptoBulkAll {H : Type} : List (DataW H) → Nat
  | [] => 0
  | d :: r => uptoBulk d + uptoBulkAll r
def uptoBulkEntries {H : Type} : List (Lit × DataW H) → Nat
  | [] => 0
  | x :: r => uptoBulkEntry x + uptoBulkEntries r
def uptoBulkEntry {H : Type} : Lit × DataW H → Nat
  | (.string bytes, d) => bytes.length + uptoBulk d + 1
  | (_, d) => uptoBulk d + 1
 end
def uptoSmall : (H : Type) → List (DataW H) → Bool := fun _ ds => decide (uptoBulkAll ds ≤ 1048576)
def OpenSpec.upto (s : _root_.Go.ChangeSpec) : _root_.Go.OpenSpec := { _root_.Go.OpenSpec.ofChange s with cond := some uptoSmall }

/-- 'koinelaw01.NaturalTextMatchesReference', WHERE WHAT IT READS IS OF BULK AT MOST 1048576: true; the input reads as it did. -/
def naturalTextMatchesReferenceUptoRow : OpenClaim := { program := "ytpalpikenkkhlaa", sum := "5500bc03ec701a12acf2e18c1ef6f8222da735c9df07432eae4f3c88ff66024c", func := "koine/koinelaw01.NaturalTextMatchesReference", spec := "naturalTextMatchesReference", apart := false, narrowed := true }
def NaturalTextMatchesReferenceUptoSaid : Prop := naturalTextMatchesReferenceUptoRow.holds Try.pinned (OpenSpec.upto naturalTextMatchesReferenceSpec)

/-- 'koinelaw01.NaturalStrings', WHERE WHAT IT READS IS OF BULK AT MOST 1048576: true; the input reads as it did. -/
def naturalStringsUptoRow : OpenClaim := { program := "ytpalpikenkkhlaa", sum := "5500bc03ec701a12acf2e18c1ef6f8222da735c9df07432eae4f3c88ff66024c", func := "koine/koinelaw01.NaturalStrings", spec := "naturalStrings", apart := false, narrowed := true }
def NaturalStringsUptoSaid : Prop := naturalStringsUptoRow.holds Try.pinned (OpenSpec.upto naturalStringsSpec)

/-- 'koinelaw01.NaturalRing', WHERE WHAT IT READS IS OF BULK AT MOST 1048576: true; the input reads as it did. -/
def naturalRingUptoRow : OpenClaim := { program := "ytpalpikenkkhlaa", sum := "5500bc03ec701a12acf2e18c1ef6f8222da735c9df07432eae4f3c88ff66024c", func := "koine/koinelaw01.NaturalRing", spec := "naturalRing", apart := false, narrowed := true }
def NaturalRingUptoSaid : Prop := naturalRingUptoRow.holds Try.pinned (OpenSpec.upto naturalRingSpec)

/-- 'koinelaw01.NaturalPowers', WHERE WHAT IT READS IS OF BULK AT MOST 1048576: true; the input reads as it did. -/
def naturalPowersUptoRow : OpenClaim := { program := "ytpalpikenkkhlaa", sum := "5500bc03ec701a12acf2e18c1ef6f8222da735c9df07432eae4f3c88ff66024c", func := "koine/koinelaw01.NaturalPowers", spec := "naturalPowers", apart := false, narrowed := true }
def NaturalPowersUptoSaid : Prop := naturalPowersUptoRow.holds Try.pinned (OpenSpec.upto naturalPowersSpec)

/-- 'koinelaw01.NaturalOrder', WHERE WHAT IT READS IS OF BULK AT MOST 1048576: true; the input reads as it did. -/
def naturalOrderUptoRow : OpenClaim := { program := "ytpalpikenkkhlaa", sum := "5500bc03ec701a12acf2e18c1ef6f8222da735c9df07432eae4f3c88ff66024c", func := "koine/koinelaw01.NaturalOrder", spec := "naturalOrder", apart := false, narrowed := true }
def NaturalOrderUptoSaid : Prop := naturalOrderUptoRow.holds Try.pinned (OpenSpec.upto naturalOrderSpec)

/-- 'koinelaw01.NaturalDivision', WHERE WHAT IT READS IS OF BULK AT MOST 1048576: true; the input reads as it did. -/
def naturalDivisionUptoRow : OpenClaim := { program := "ytpalpikenkkhlaa", sum := "5500bc03ec701a12acf2e18c1ef6f8222da735c9df07432eae4f3c88ff66024c", func := "koine/koinelaw01.NaturalDivision", spec := "naturalDivision", apart := false, narrowed := true }
def NaturalDivisionUptoSaid : Prop := naturalDivisionUptoRow.holds Try.pinned (OpenSpec.upto naturalDivisionSpec)

/-- 'koinelaw01.NaturalDecimal', WHERE WHAT IT READS IS OF BULK AT MOST 1048576: true; the input reads as it did. -/
def naturalDecimalUptoRow : OpenClaim := { program := "ytpalpikenkkhlaa", sum := "5500bc03ec701a12acf2e18c1ef6f8222da735c9df07432eae4f3c88ff66024c", func := "koine/koinelaw01.NaturalDecimal", spec := "naturalDecimal", apart := false, narrowed := true }
def NaturalDecimalUptoSaid : Prop := naturalDecimalUptoRow.holds Try.pinned (OpenSpec.upto naturalDecimalSpec)

/-- 'koinelaw01.NaturalLimits', WHERE WHAT IT READS IS OF BULK AT MOST 1048576: true; the input reads as it did. -/
def naturalLimitsUptoRow : OpenClaim := { program := "ytpalpikenkkhlaa", sum := "5500bc03ec701a12acf2e18c1ef6f8222da735c9df07432eae4f3c88ff66024c", func := "koine/koinelaw01.NaturalLimits", spec := "naturalLimits", apart := false, narrowed := true }
def NaturalLimitsUptoSaid : Prop := naturalLimitsUptoRow.holds Try.pinned (OpenSpec.upto naturalLimitsSpec)

/-- 'koinelaw01.NaturalDifferences', WHERE WHAT IT READS IS OF BULK AT MOST 1048576: true; the input reads as it did. -/
def naturalDifferencesUptoRow : OpenClaim := { program := "ytpalpikenkkhlaa", sum := "5500bc03ec701a12acf2e18c1ef6f8222da735c9df07432eae4f3c88ff66024c", func := "koine/koinelaw01.NaturalDifferences", spec := "naturalDifferences", apart := false, narrowed := true }
def NaturalDifferencesUptoSaid : Prop := naturalDifferencesUptoRow.holds Try.pinned (OpenSpec.upto naturalDifferencesSpec)

/-- 'koinelaw01.NaturalMatchesReference', WHERE WHAT IT READS IS OF BULK AT MOST 1048576: true; the input reads as it did. -/
def naturalMatchesReferenceUptoRow : OpenClaim := { program := "ytpalpikenkkhlaa", sum := "5500bc03ec701a12acf2e18c1ef6f8222da735c9df07432eae4f3c88ff66024c", func := "koine/koinelaw01.NaturalMatchesReference", spec := "naturalMatchesReference", apart := false, narrowed := true }
def NaturalMatchesReferenceUptoSaid : Prop := naturalMatchesReferenceUptoRow.holds Try.pinned (OpenSpec.upto naturalMatchesReferenceSpec)

/-- 'koinelaw01.NaturalCanonical', WHERE WHAT IT READS IS OF BULK AT MOST 1048576: true; the input reads as it did. -/
def naturalCanonicalUptoRow : OpenClaim := { program := "ytpalpikenkkhlaa", sum := "5500bc03ec701a12acf2e18c1ef6f8222da735c9df07432eae4f3c88ff66024c", func := "koine/koinelaw01.NaturalCanonical", spec := "naturalCanonical", apart := false, narrowed := true }
def NaturalCanonicalUptoSaid : Prop := naturalCanonicalUptoRow.holds Try.pinned (OpenSpec.upto naturalCanonicalSpec)

end Rows
end Go.Proofs.Ytpalpikenkkhlaa
