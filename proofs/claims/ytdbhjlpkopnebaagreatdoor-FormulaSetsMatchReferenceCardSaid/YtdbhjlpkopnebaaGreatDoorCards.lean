/-
  DERIVED. GIVEN WITH THE SEED: THE CARDS: each row of YtdbhjlpkopnebaaGreatDoorRows.lean that lists a variable, with what it lists TIED to the program's text (the seventh form; the later family's looks); each row that meets fmt, with fmt's text TOLD by the authors' own Lean function (tested against real Go, not proved from fmt's source: count such statements apart). THE CARD IS WHAT COUNTS. Prove the row's statement (the work); the ties are given (YtdbhjlpkopnebaaGreatDoorTie.lean); close each card by the builder's one call (the guide's Derived/Test/ToyasCard.lean, 'card_holds'). Laid BY PROGRAM, IN A SANDBOX (cutbox-door.mjs). By AI agents, Wed Nov 11 2026. No macro, syntax, notation, axiom, sorry.
-/
import Derived.Test.YtdbhjlpkopnebaaGreatDoorRows
import GoSem.ClaimSeven
namespace Go.Proofs.YtdbhjlpkopnebaaGreatDoor
namespace Rows

/-- THE TIED CARD OF 'koinelaw03.FormulaSetsMatchReference'. -/
def formulaSetsMatchReferenceCard : Claim7 := { stood := { row := formulaSetsMatchReferenceRow, standIns := [], harness := (true, "7c0c4cbf9ce4b1d7fb9a1d7a33d06e18905cac01d97a2d9cebdbf5106cd4466b"), looks := true }, kinds := [], alts := [], laidByText := true, laidKinds := [.data, .pinned], laidTests := true, laidLooks := .later }
def FormulaSetsMatchReferenceCardSaid : Prop := Claim7.holds Tryz.pinned (.plain (OpenSpec.ofChange formulaSetsMatchReferenceSpec)) formulaSetsMatchReferenceCard

/-- THE TIED CARD OF 'koinelaw03.FormulaCanonical'. -/
def formulaCanonicalCard : Claim7 := { stood := { row := formulaCanonicalRow, standIns := [], harness := (true, "7c0c4cbf9ce4b1d7fb9a1d7a33d06e18905cac01d97a2d9cebdbf5106cd4466b"), looks := true }, kinds := [], alts := [], laidByText := true, laidKinds := [.data, .pinned], laidTests := true, laidLooks := .later }
def FormulaCanonicalCardSaid : Prop := Claim7.holds Tryz.pinned (.plain (OpenSpec.ofChange formulaCanonicalSpec)) formulaCanonicalCard

/-- THE SECOND FORM's CARD OF 'koinelaw03.FormulaSetsMatchReference'. -/
def formulaSetsMatchReferenceUptoCard : Claim7 := { stood := { row := formulaSetsMatchReferenceUptoRow, standIns := [], harness := (true, "7c0c4cbf9ce4b1d7fb9a1d7a33d06e18905cac01d97a2d9cebdbf5106cd4466b"), looks := true }, kinds := [], alts := [], laidByText := true, laidKinds := [.data, .pinned], laidTests := true, laidLooks := .later }
def FormulaSetsMatchReferenceUptoCardSaid : Prop := Claim7.holds Tryz.pinned (.plain (OpenSpec.upto formulaSetsMatchReferenceSpec)) formulaSetsMatchReferenceUptoCard

/-- THE SECOND FORM's CARD OF 'koinelaw03.FormulaCanonical'. -/
def formulaCanonicalUptoCard : Claim7 := { stood := { row := formulaCanonicalUptoRow, standIns := [], harness := (true, "7c0c4cbf9ce4b1d7fb9a1d7a33d06e18905cac01d97a2d9cebdbf5106cd4466b"), looks := true }, kinds := [], alts := [], laidByText := true, laidKinds := [.data, .pinned], laidTests := true, laidLooks := .later }
def FormulaCanonicalUptoCardSaid : Prop := Claim7.holds Tryz.pinned (.plain (OpenSpec.upto formulaCanonicalSpec)) formulaCanonicalUptoCard
end Rows
end Go.Proofs.YtdbhjlpkopnebaaGreatDoor
