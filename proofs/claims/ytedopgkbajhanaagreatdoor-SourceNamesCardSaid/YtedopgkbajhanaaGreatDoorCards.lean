/-
  DERIVED. GIVEN WITH THE SEED: THE CARDS: each row of YtedopgkbajhanaaGreatDoorRows.lean that lists a variable, with what it lists TIED to the program's text (the seventh form; the later family's looks); each row that meets fmt, with fmt's text TOLD by the authors' own Lean function (tested against real Go, not proved from fmt's source: count such statements apart). THE CARD IS WHAT COUNTS. Prove the row's statement (the work); the ties are given (YtedopgkbajhanaaGreatDoorTie.lean); close each card by the builder's one call (the guide's Derived/Test/ToyasCard.lean, 'card_holds'). Laid BY PROGRAM, IN A SANDBOX (cutbox-door.mjs). By AI agents, Wed Nov 11 2026. No macro, syntax, notation, axiom, sorry.
-/
import Derived.Test.YtedopgkbajhanaaGreatDoorRows
import GoSem.ClaimSeven
namespace Go.Proofs.YtedopgkbajhanaaGreatDoor
namespace Rows

/-- THE TIED CARD OF 'koinelaw07.SourceMatchesReference'. -/
def sourceMatchesReferenceCard : Claim7 := { stood := { row := sourceMatchesReferenceRow, standIns := [], harness := (true, "650328c02ff6a4e79be2bcfa7dd5562d41f23c6828c27e11d0c6bc60d55bf5e8"), looks := true }, kinds := [], alts := [], laidByText := true, laidKinds := [.data, .pinned], laidTests := true, laidLooks := .later }
def SourceMatchesReferenceCardSaid : Prop := Claim7.holds Tryz.pinned (.plain (OpenSpec.ofChange sourceMatchesReferenceSpec)) sourceMatchesReferenceCard

/-- THE TIED CARD OF 'koinelaw07.SourceNames'. -/
def sourceNamesCard : Claim7 := { stood := { row := sourceNamesRow, standIns := [], harness := (true, "650328c02ff6a4e79be2bcfa7dd5562d41f23c6828c27e11d0c6bc60d55bf5e8"), looks := true }, kinds := [], alts := [], laidByText := true, laidKinds := [.data, .pinned], laidTests := true, laidLooks := .later }
def SourceNamesCardSaid : Prop := Claim7.holds Tryz.pinned (.plain (OpenSpec.ofChange sourceNamesSpec)) sourceNamesCard

/-- THE TIED CARD OF 'koinelaw07.SourceAnyMatchesReference'. -/
def sourceAnyMatchesReferenceCard : Claim7 := { stood := { row := sourceAnyMatchesReferenceRow, standIns := [], harness := (true, "650328c02ff6a4e79be2bcfa7dd5562d41f23c6828c27e11d0c6bc60d55bf5e8"), looks := true }, kinds := [], alts := [], laidByText := true, laidKinds := [.data, .pinned], laidTests := true, laidLooks := .later }
def SourceAnyMatchesReferenceCardSaid : Prop := Claim7.holds Tryz.pinned (.plain (OpenSpec.ofChange sourceAnyMatchesReferenceSpec)) sourceAnyMatchesReferenceCard

/-- THE TIED CARD OF 'koinelaw07.SourceSelection'. -/
def sourceSelectionCard : Claim7 := { stood := { row := sourceSelectionRow, standIns := [], harness := (true, "650328c02ff6a4e79be2bcfa7dd5562d41f23c6828c27e11d0c6bc60d55bf5e8"), looks := true }, kinds := [], alts := [], laidByText := true, laidKinds := [.data, .pinned], laidTests := true, laidLooks := .later }
def SourceSelectionCardSaid : Prop := Claim7.holds Tryz.pinned (.plain (OpenSpec.ofChange sourceSelectionSpec)) sourceSelectionCard

/-- THE TIED CARD OF 'koinelaw07.SourceSections'. -/
def sourceSectionsCard : Claim7 := { stood := { row := sourceSectionsRow, standIns := [], harness := (true, "650328c02ff6a4e79be2bcfa7dd5562d41f23c6828c27e11d0c6bc60d55bf5e8"), looks := true }, kinds := [], alts := [], laidByText := true, laidKinds := [.data, .pinned], laidTests := true, laidLooks := .later }
def SourceSectionsCardSaid : Prop := Claim7.holds Tryz.pinned (.plain (OpenSpec.ofChange sourceSectionsSpec)) sourceSectionsCard

/-- THE TIED CARD OF 'koinelaw07.SourceOffsets'. -/
def sourceOffsetsCard : Claim7 := { stood := { row := sourceOffsetsRow, standIns := [], harness := (true, "650328c02ff6a4e79be2bcfa7dd5562d41f23c6828c27e11d0c6bc60d55bf5e8"), looks := true }, kinds := [], alts := [], laidByText := true, laidKinds := [.data, .pinned], laidTests := true, laidLooks := .later }
def SourceOffsetsCardSaid : Prop := Claim7.holds Tryz.pinned (.plain (OpenSpec.ofChange sourceOffsetsSpec)) sourceOffsetsCard

/-- THE TIED CARD OF 'koinelaw07.SourceIncludes'. -/
def sourceIncludesCard : Claim7 := { stood := { row := sourceIncludesRow, standIns := [], harness := (true, "650328c02ff6a4e79be2bcfa7dd5562d41f23c6828c27e11d0c6bc60d55bf5e8"), looks := true }, kinds := [], alts := [], laidByText := true, laidKinds := [.data, .pinned], laidTests := true, laidLooks := .later }
def SourceIncludesCardSaid : Prop := Claim7.holds Tryz.pinned (.plain (OpenSpec.ofChange sourceIncludesSpec)) sourceIncludesCard

/-- THE TIED CARD OF 'koinelaw07.SourceErrors'. -/
def sourceErrorsCard : Claim7 := { stood := { row := sourceErrorsRow, standIns := [], harness := (true, "650328c02ff6a4e79be2bcfa7dd5562d41f23c6828c27e11d0c6bc60d55bf5e8"), looks := true }, kinds := [], alts := [], laidByText := true, laidKinds := [.data, .pinned], laidTests := true, laidLooks := .later }
def SourceErrorsCardSaid : Prop := Claim7.holds Tryz.pinned (.plain (OpenSpec.ofChange sourceErrorsSpec)) sourceErrorsCard

/-- THE TIED CARD OF 'koinelaw07.SourcePlain'. -/
def sourcePlainCard : Claim7 := { stood := { row := sourcePlainRow, standIns := [], harness := (true, "650328c02ff6a4e79be2bcfa7dd5562d41f23c6828c27e11d0c6bc60d55bf5e8"), looks := true }, kinds := [], alts := [], laidByText := true, laidKinds := [.data, .pinned], laidTests := true, laidLooks := .later }
def SourcePlainCardSaid : Prop := Claim7.holds Tryz.pinned (.plain (OpenSpec.ofChange sourcePlainSpec)) sourcePlainCard

/-- THE TIED CARD OF 'koinelaw07.SourceDead'. -/
def sourceDeadCard : Claim7 := { stood := { row := sourceDeadRow, standIns := [], harness := (true, "650328c02ff6a4e79be2bcfa7dd5562d41f23c6828c27e11d0c6bc60d55bf5e8"), looks := true }, kinds := [], alts := [], laidByText := true, laidKinds := [.data, .pinned], laidTests := true, laidLooks := .later }
def SourceDeadCardSaid : Prop := Claim7.holds Tryz.pinned (.plain (OpenSpec.ofChange sourceDeadSpec)) sourceDeadCard

/-- THE SECOND FORM's CARD OF 'koinelaw07.SourceMatchesReference'. -/
def sourceMatchesReferenceUptoCard : Claim7 := { stood := { row := sourceMatchesReferenceUptoRow, standIns := [], harness := (true, "650328c02ff6a4e79be2bcfa7dd5562d41f23c6828c27e11d0c6bc60d55bf5e8"), looks := true }, kinds := [], alts := [], laidByText := true, laidKinds := [.data, .pinned], laidTests := true, laidLooks := .later }
def SourceMatchesReferenceUptoCardSaid : Prop := Claim7.holds Tryz.pinned (.plain (OpenSpec.upto sourceMatchesReferenceSpec)) sourceMatchesReferenceUptoCard

/-- THE SECOND FORM's CARD OF 'koinelaw07.SourceNames'. -/
def sourceNamesUptoCard : Claim7 := { stood := { row := sourceNamesUptoRow, standIns := [], harness := (true, "650328c02ff6a4e79be2bcfa7dd5562d41f23c6828c27e11d0c6bc60d55bf5e8"), looks := true }, kinds := [], alts := [], laidByText := true, laidKinds := [.data, .pinned], laidTests := true, laidLooks := .later }
def SourceNamesUptoCardSaid : Prop := Claim7.holds Tryz.pinned (.plain (OpenSpec.upto sourceNamesSpec)) sourceNamesUptoCard

/-- THE SECOND FORM's CARD OF 'koinelaw07.SourceAnyMatchesReference'. -/
def sourceAnyMatchesReferenceUptoCard : Claim7 := { stood := { row := sourceAnyMatchesReferenceUptoRow, standIns := [], harness := (true, "650328c02ff6a4e79be2bcfa7dd5562d41f23c6828c27e11d0c6bc60d55bf5e8"), looks := true }, kinds := [], alts := [], laidByText := true, laidKinds := [.data, .pinned], laidTests := true, laidLooks := .later }
def SourceAnyMatchesReferenceUptoCardSaid : Prop := Claim7.holds Tryz.pinned (.plain (OpenSpec.upto sourceAnyMatchesReferenceSpec)) sourceAnyMatchesReferenceUptoCard

/-- THE SECOND FORM's CARD OF 'koinelaw07.SourceSelection'. -/
def sourceSelectionUptoCard : Claim7 := { stood := { row := sourceSelectionUptoRow, standIns := [], harness := (true, "650328c02ff6a4e79be2bcfa7dd5562d41f23c6828c27e11d0c6bc60d55bf5e8"), looks := true }, kinds := [], alts := [], laidByText := true, laidKinds := [.data, .pinned], laidTests := true, laidLooks := .later }
def SourceSelectionUptoCardSaid : Prop := Claim7.holds Tryz.pinned (.plain (OpenSpec.upto sourceSelectionSpec)) sourceSelectionUptoCard

/-- THE SECOND FORM's CARD OF 'koinelaw07.SourceSections'. -/
def sourceSectionsUptoCard : Claim7 := { stood := { row := sourceSectionsUptoRow, standIns := [], harness := (true, "650328c02ff6a4e79be2bcfa7dd5562d41f23c6828c27e11d0c6bc60d55bf5e8"), looks := true }, kinds := [], alts := [], laidByText := true, laidKinds := [.data, .pinned], laidTests := true, laidLooks := .later }
def SourceSectionsUptoCardSaid : Prop := Claim7.holds Tryz.pinned (.plain (OpenSpec.upto sourceSectionsSpec)) sourceSectionsUptoCard

/-- THE SECOND FORM's CARD OF 'koinelaw07.SourceOffsets'. -/
def sourceOffsetsUptoCard : Claim7 := { stood := { row := sourceOffsetsUptoRow, standIns := [], harness := (true, "650328c02ff6a4e79be2bcfa7dd5562d41f23c6828c27e11d0c6bc60d55bf5e8"), looks := true }, kinds := [], alts := [], laidByText := true, laidKinds := [.data, .pinned], laidTests := true, laidLooks := .later }
def SourceOffsetsUptoCardSaid : Prop := Claim7.holds Tryz.pinned (.plain (OpenSpec.upto sourceOffsetsSpec)) sourceOffsetsUptoCard

/-- THE SECOND FORM's CARD OF 'koinelaw07.SourceIncludes'. -/
def sourceIncludesUptoCard : Claim7 := { stood := { row := sourceIncludesUptoRow, standIns := [], harness := (true, "650328c02ff6a4e79be2bcfa7dd5562d41f23c6828c27e11d0c6bc60d55bf5e8"), looks := true }, kinds := [], alts := [], laidByText := true, laidKinds := [.data, .pinned], laidTests := true, laidLooks := .later }
def SourceIncludesUptoCardSaid : Prop := Claim7.holds Tryz.pinned (.plain (OpenSpec.upto sourceIncludesSpec)) sourceIncludesUptoCard

/-- THE SECOND FORM's CARD OF 'koinelaw07.SourceErrors'. -/
def sourceErrorsUptoCard : Claim7 := { stood := { row := sourceErrorsUptoRow, standIns := [], harness := (true, "650328c02ff6a4e79be2bcfa7dd5562d41f23c6828c27e11d0c6bc60d55bf5e8"), looks := true }, kinds := [], alts := [], laidByText := true, laidKinds := [.data, .pinned], laidTests := true, laidLooks := .later }
def SourceErrorsUptoCardSaid : Prop := Claim7.holds Tryz.pinned (.plain (OpenSpec.upto sourceErrorsSpec)) sourceErrorsUptoCard

/-- THE SECOND FORM's CARD OF 'koinelaw07.SourcePlain'. -/
def sourcePlainUptoCard : Claim7 := { stood := { row := sourcePlainUptoRow, standIns := [], harness := (true, "650328c02ff6a4e79be2bcfa7dd5562d41f23c6828c27e11d0c6bc60d55bf5e8"), looks := true }, kinds := [], alts := [], laidByText := true, laidKinds := [.data, .pinned], laidTests := true, laidLooks := .later }
def SourcePlainUptoCardSaid : Prop := Claim7.holds Tryz.pinned (.plain (OpenSpec.upto sourcePlainSpec)) sourcePlainUptoCard

/-- THE SECOND FORM's CARD OF 'koinelaw07.SourceDead'. -/
def sourceDeadUptoCard : Claim7 := { stood := { row := sourceDeadUptoRow, standIns := [], harness := (true, "650328c02ff6a4e79be2bcfa7dd5562d41f23c6828c27e11d0c6bc60d55bf5e8"), looks := true }, kinds := [], alts := [], laidByText := true, laidKinds := [.data, .pinned], laidTests := true, laidLooks := .later }
def SourceDeadUptoCardSaid : Prop := Claim7.holds Tryz.pinned (.plain (OpenSpec.upto sourceDeadSpec)) sourceDeadUptoCard
end Rows
end Go.Proofs.YtedopgkbajhanaaGreatDoor
