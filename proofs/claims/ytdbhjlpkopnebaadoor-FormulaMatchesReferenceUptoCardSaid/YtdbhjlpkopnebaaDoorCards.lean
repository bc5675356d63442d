/-
  DERIVED. GIVEN WITH THE SEED: THE CARDS: each row of YtdbhjlpkopnebaaDoorRows.lean that lists a variable, with what it lists TIED to the program's text (the seventh form; the later family's looks); each row that meets fmt, with fmt's text TOLD by the authors' own Lean function (tested against real Go, not proved from fmt's source: count such statements apart). THE CARD IS WHAT COUNTS. Prove the row's statement (the work); the ties are given (YtdbhjlpkopnebaaDoorTie.lean); close each card by the builder's one call (the guide's Derived/Test/ToyasCard.lean, 'card_holds'). Laid BY PROGRAM, IN A SANDBOX (cutbox-door.mjs). By AI agents, Wed Nov 11 2026. No macro, syntax, notation, axiom, sorry.
-/
import Derived.Test.YtdbhjlpkopnebaaDoorRows
import GoSem.ClaimSeven
namespace Go.Proofs.YtdbhjlpkopnebaaDoor
namespace Rows

/-- THE TIED CARD OF 'koinelaw03.FormulaParsesLikeReference'. -/
def formulaParsesLikeReferenceCard : Claim7 := { stood := { row := formulaParsesLikeReferenceRow, standIns := [], harness := (true, "13df2afef952b681cddf15f75a76cb538091b51fc6584c70a59b4419459a18a5"), looks := true }, kinds := [], alts := [], laidByText := true, laidKinds := [.data, .pinned], laidTests := true, laidLooks := .later }
def FormulaParsesLikeReferenceCardSaid : Prop := Claim7.holds Tryd.pinned (.plain (OpenSpec.ofChange formulaParsesLikeReferenceSpec)) formulaParsesLikeReferenceCard

/-- THE TIED CARD OF 'koinelaw03.FormulaAnyDiagram'. -/
def formulaAnyDiagramCard : Claim7 := { stood := { row := formulaAnyDiagramRow, standIns := [], harness := (true, "13df2afef952b681cddf15f75a76cb538091b51fc6584c70a59b4419459a18a5"), looks := true }, kinds := [], alts := [], laidByText := true, laidKinds := [.data, .pinned], laidTests := true, laidLooks := .later }
def FormulaAnyDiagramCardSaid : Prop := Claim7.holds Tryd.pinned (.plain (OpenSpec.ofChange formulaAnyDiagramSpec)) formulaAnyDiagramCard

/-- THE TIED CARD OF 'koinelaw03.FormulaRoundTrip'. -/
def formulaRoundTripCard : Claim7 := { stood := { row := formulaRoundTripRow, standIns := [], harness := (true, "13df2afef952b681cddf15f75a76cb538091b51fc6584c70a59b4419459a18a5"), looks := true }, kinds := [], alts := [], laidByText := true, laidKinds := [.data, .pinned], laidTests := true, laidLooks := .later }
def FormulaRoundTripCardSaid : Prop := Claim7.holds Tryd.pinned (.plain (OpenSpec.ofChange formulaRoundTripSpec)) formulaRoundTripCard

/-- THE TIED CARD OF 'koinelaw03.FormulaParentheses'. -/
def formulaParenthesesCard : Claim7 := { stood := { row := formulaParenthesesRow, standIns := [], harness := (true, "13df2afef952b681cddf15f75a76cb538091b51fc6584c70a59b4419459a18a5"), looks := true }, kinds := [], alts := [], laidByText := true, laidKinds := [.data, .pinned], laidTests := true, laidLooks := .later }
def FormulaParenthesesCardSaid : Prop := Claim7.holds Tryd.pinned (.plain (OpenSpec.ofChange formulaParenthesesSpec)) formulaParenthesesCard

/-- THE TIED CARD OF 'koinelaw03.FormulaSpaces'. -/
def formulaSpacesCard : Claim7 := { stood := { row := formulaSpacesRow, standIns := [], harness := (true, "13df2afef952b681cddf15f75a76cb538091b51fc6584c70a59b4419459a18a5"), looks := true }, kinds := [], alts := [], laidByText := true, laidKinds := [.data, .pinned], laidTests := true, laidLooks := .later }
def FormulaSpacesCardSaid : Prop := Claim7.holds Tryd.pinned (.plain (OpenSpec.ofChange formulaSpacesSpec)) formulaSpacesCard

/-- THE TIED CARD OF 'koinelaw03.FormulaMatchesReference'. -/
def formulaMatchesReferenceCard : Claim7 := { stood := { row := formulaMatchesReferenceRow, standIns := [], harness := (true, "13df2afef952b681cddf15f75a76cb538091b51fc6584c70a59b4419459a18a5"), looks := true }, kinds := [], alts := [], laidByText := true, laidKinds := [.data, .pinned], laidTests := true, laidLooks := .later }
def FormulaMatchesReferenceCardSaid : Prop := Claim7.holds Tryd.pinned (.plain (OpenSpec.ofChange formulaMatchesReferenceSpec)) formulaMatchesReferenceCard

/-- THE TIED CARD OF 'koinelaw03.FormulaOperators'. -/
def formulaOperatorsCard : Claim7 := { stood := { row := formulaOperatorsRow, standIns := [], harness := (true, "13df2afef952b681cddf15f75a76cb538091b51fc6584c70a59b4419459a18a5"), looks := true }, kinds := [], alts := [], laidByText := true, laidKinds := [.data, .pinned], laidTests := true, laidLooks := .later }
def FormulaOperatorsCardSaid : Prop := Claim7.holds Tryd.pinned (.plain (OpenSpec.ofChange formulaOperatorsSpec)) formulaOperatorsCard

/-- THE TIED CARD OF 'koinelaw03.FormulaHoldsInItsSet'. -/
def formulaHoldsInItsSetCard : Claim7 := { stood := { row := formulaHoldsInItsSetRow, standIns := [], harness := (true, "13df2afef952b681cddf15f75a76cb538091b51fc6584c70a59b4419459a18a5"), looks := true }, kinds := [], alts := [], laidByText := true, laidKinds := [.data, .pinned], laidTests := true, laidLooks := .later }
def FormulaHoldsInItsSetCardSaid : Prop := Claim7.holds Tryd.pinned (.plain (OpenSpec.ofChange formulaHoldsInItsSetSpec)) formulaHoldsInItsSetCard

/-- THE SECOND FORM's CARD OF 'koinelaw03.FormulaParsesLikeReference'. -/
def formulaParsesLikeReferenceUptoCard : Claim7 := { stood := { row := formulaParsesLikeReferenceUptoRow, standIns := [], harness := (true, "13df2afef952b681cddf15f75a76cb538091b51fc6584c70a59b4419459a18a5"), looks := true }, kinds := [], alts := [], laidByText := true, laidKinds := [.data, .pinned], laidTests := true, laidLooks := .later }
def FormulaParsesLikeReferenceUptoCardSaid : Prop := Claim7.holds Tryd.pinned (.plain (OpenSpec.upto formulaParsesLikeReferenceSpec)) formulaParsesLikeReferenceUptoCard

/-- THE SECOND FORM's CARD OF 'koinelaw03.FormulaAnyDiagram'. -/
def formulaAnyDiagramUptoCard : Claim7 := { stood := { row := formulaAnyDiagramUptoRow, standIns := [], harness := (true, "13df2afef952b681cddf15f75a76cb538091b51fc6584c70a59b4419459a18a5"), looks := true }, kinds := [], alts := [], laidByText := true, laidKinds := [.data, .pinned], laidTests := true, laidLooks := .later }
def FormulaAnyDiagramUptoCardSaid : Prop := Claim7.holds Tryd.pinned (.plain (OpenSpec.upto formulaAnyDiagramSpec)) formulaAnyDiagramUptoCard

/-- THE SECOND FORM's CARD OF 'koinelaw03.FormulaRoundTrip'. -/
def formulaRoundTripUptoCard : Claim7 := { stood := { row := formulaRoundTripUptoRow, standIns := [], harness := (true, "13df2afef952b681cddf15f75a76cb538091b51fc6584c70a59b4419459a18a5"), looks := true }, kinds := [], alts := [], laidByText := true, laidKinds := [.data, .pinned], laidTests := true, laidLooks := .later }
def FormulaRoundTripUptoCardSaid : Prop := Claim7.holds Tryd.pinned (.plain (OpenSpec.upto formulaRoundTripSpec)) formulaRoundTripUptoCard

/-- THE SECOND FORM's CARD OF 'koinelaw03.FormulaParentheses'. -/
def formulaParenthesesUptoCard : Claim7 := { stood := { row := formulaParenthesesUptoRow, standIns := [], harness := (true, "13df2afef952b681cddf15f75a76cb538091b51fc6584c70a59b4419459a18a5"), looks := true }, kinds := [], alts := [], laidByText := true, laidKinds := [.data, .pinned], laidTests := true, laidLooks := .later }
def FormulaParenthesesUptoCardSaid : Prop := Claim7.holds Tryd.pinned (.plain (OpenSpec.upto formulaParenthesesSpec)) formulaParenthesesUptoCard

/-- THE SECOND FORM's CARD OF 'koinelaw03.FormulaSpaces'. -/
def formulaSpacesUptoCard : Claim7 := { stood := { row := formulaSpacesUptoRow, standIns := [], harness := (true, "13df2afef952b681cddf15f75a76cb538091b51fc6584c70a59b4419459a18a5"), looks := true }, kinds := [], alts := [], laidByText := true, laidKinds := [.data, .pinned], laidTests := true, laidLooks := .later }
def FormulaSpacesUptoCardSaid : Prop := Claim7.holds Tryd.pinned (.plain (OpenSpec.upto formulaSpacesSpec)) formulaSpacesUptoCard

/-- THE SECOND FORM's CARD OF 'koinelaw03.FormulaMatchesReference'. -/
def formulaMatchesReferenceUptoCard : Claim7 := { stood := { row := formulaMatchesReferenceUptoRow, standIns := [], harness := (true, "13df2afef952b681cddf15f75a76cb538091b51fc6584c70a59b4419459a18a5"), looks := true }, kinds := [], alts := [], laidByText := true, laidKinds := [.data, .pinned], laidTests := true, laidLooks := .later }
def FormulaMatchesReferenceUptoCardSaid : Prop := Claim7.holds Tryd.pinned (.plain (OpenSpec.upto formulaMatchesReferenceSpec)) formulaMatchesReferenceUptoCard

/-- THE SECOND FORM's CARD OF 'koinelaw03.FormulaOperators'. -/
def formulaOperatorsUptoCard : Claim7 := { stood := { row := formulaOperatorsUptoRow, standIns := [], harness := (true, "13df2afef952b681cddf15f75a76cb538091b51fc6584c70a59b4419459a18a5"), looks := true }, kinds := [], alts := [], laidByText := true, laidKinds := [.data, .pinned], laidTests := true, laidLooks := .later }
def FormulaOperatorsUptoCardSaid : Prop := Claim7.holds Tryd.pinned (.plain (OpenSpec.upto formulaOperatorsSpec)) formulaOperatorsUptoCard

/-- THE SECOND FORM's CARD OF 'koinelaw03.FormulaHoldsInItsSet'. -/
def formulaHoldsInItsSetUptoCard : Claim7 := { stood := { row := formulaHoldsInItsSetUptoRow, standIns := [], harness := (true, "13df2afef952b681cddf15f75a76cb538091b51fc6584c70a59b4419459a18a5"), looks := true }, kinds := [], alts := [], laidByText := true, laidKinds := [.data, .pinned], laidTests := true, laidLooks := .later }
def FormulaHoldsInItsSetUptoCardSaid : Prop := Claim7.holds Tryd.pinned (.plain (OpenSpec.upto formulaHoldsInItsSetSpec)) formulaHoldsInItsSetUptoCard
end Rows
end Go.Proofs.YtdbhjlpkopnebaaDoor
