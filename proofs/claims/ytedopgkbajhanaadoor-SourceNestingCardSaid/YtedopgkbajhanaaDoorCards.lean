/-
  DERIVED. GIVEN WITH THE SEED: THE CARDS: each row of YtedopgkbajhanaaDoorRows.lean that lists a variable, with what it lists TIED to the program's text (the seventh form; the later family's looks); each row that meets fmt, with fmt's text TOLD by the authors' own Lean function (tested against real Go, not proved from fmt's source: count such statements apart). THE CARD IS WHAT COUNTS. Prove the row's statement (the work); the ties are given (YtedopgkbajhanaaDoorTie.lean); close each card by the builder's one call (the guide's Derived/Test/ToyasCard.lean, 'card_holds'). Laid BY PROGRAM, IN A SANDBOX (cutbox-door.mjs). By AI agents, Wed Nov 11 2026. No macro, syntax, notation, axiom, sorry.
-/
import Derived.Test.YtedopgkbajhanaaDoorRows
import GoSem.ClaimSeven
namespace Go.Proofs.YtedopgkbajhanaaDoor
namespace Rows

/-- THE TIED CARD OF 'koinelaw07.SourceNesting'. -/
def sourceNestingCard : Claim7 := { stood := { row := sourceNestingRow, standIns := [], harness := (true, "348294a2926affd0b8a590a0ae8974b36ef4fe09b65041a23a8a0fc6ccc2717d"), looks := true }, kinds := [], alts := [], laidByText := true, laidKinds := [.data, .pinned], laidTests := true, laidLooks := .later }
def SourceNestingCardSaid : Prop := Claim7.holds Tryd.pinned (.plain (OpenSpec.ofChange sourceNestingSpec)) sourceNestingCard

/-- THE SECOND FORM's CARD OF 'koinelaw07.SourceNesting'. -/
def sourceNestingUptoCard : Claim7 := { stood := { row := sourceNestingUptoRow, standIns := [], harness := (true, "348294a2926affd0b8a590a0ae8974b36ef4fe09b65041a23a8a0fc6ccc2717d"), looks := true }, kinds := [], alts := [], laidByText := true, laidKinds := [.data, .pinned], laidTests := true, laidLooks := .later }
def SourceNestingUptoCardSaid : Prop := Claim7.holds Tryd.pinned (.plain (OpenSpec.upto sourceNestingSpec)) sourceNestingUptoCard
end Rows
end Go.Proofs.YtedopgkbajhanaaDoor
