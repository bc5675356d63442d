/-
  DERIVED. GIVEN WITH THE SEED: THE CARDS: each row of YtjabbbcdgmlojaaGreatDoorRows.lean that lists a variable, with what it lists TIED to the program's text (the seventh form; the later family's looks); each row that meets fmt, with fmt's text TOLD by the authors' own Lean function (tested against real Go, not proved from fmt's source: count such statements apart). THE CARD IS WHAT COUNTS. Prove the row's statement (the work); the ties are given (YtjabbbcdgmlojaaGreatDoorTie.lean); close each card by the builder's one call (the guide's Derived/Test/ToyasCard.lean, 'card_holds'). Laid BY PROGRAM, IN A SANDBOX (cutbox-door.mjs). By AI agents, Wed Nov 11 2026. No macro, syntax, notation, axiom, sorry.
-/
import Derived.Test.YtjabbbcdgmlojaaGreatDoorRows
import GoSem.ClaimSeven
namespace Go.Proofs.YtjabbbcdgmlojaaGreatDoor
namespace Rows

/-- THE TIED CARD OF 'koinelaw29.PatchEdits'. -/
def patchEditsCard : Claim7 := { stood := { row := patchEditsRow, standIns := [], harness := (true, "d764391cf22f76d447c6107359f95cf66710494fbacb3dd6ab85522dfeed45a8"), looks := true }, kinds := [], alts := [], laidByText := true, laidKinds := [.data, .pinned], laidTests := true, laidLooks := .later }
def PatchEditsCardSaid : Prop := Claim7.holds Tryz.pinned (.plain (OpenSpec.ofChange patchEditsSpec)) patchEditsCard

/-- THE TIED CARD OF 'koinelaw29.PatchSections'. -/
def patchSectionsCard : Claim7 := { stood := { row := patchSectionsRow, standIns := [], harness := (true, "d764391cf22f76d447c6107359f95cf66710494fbacb3dd6ab85522dfeed45a8"), looks := true }, kinds := [], alts := [], laidByText := true, laidKinds := [.data, .pinned], laidTests := true, laidLooks := .later }
def PatchSectionsCardSaid : Prop := Claim7.holds Tryz.pinned (.plain (OpenSpec.ofChange patchSectionsSpec)) patchSectionsCard

/-- THE TIED CARD OF 'koinelaw29.PatchWeavesLikeReference'. -/
def patchWeavesLikeReferenceCard : Claim7 := { stood := { row := patchWeavesLikeReferenceRow, standIns := [], harness := (true, "d764391cf22f76d447c6107359f95cf66710494fbacb3dd6ab85522dfeed45a8"), looks := true }, kinds := [], alts := [], laidByText := true, laidKinds := [.data, .pinned], laidTests := true, laidLooks := .later }
def PatchWeavesLikeReferenceCardSaid : Prop := Claim7.holds Tryz.pinned (.plain (OpenSpec.ofChange patchWeavesLikeReferenceSpec)) patchWeavesLikeReferenceCard

/-- THE TIED CARD OF 'koinelaw29.PatchAppliesLikeReference'. -/
def patchAppliesLikeReferenceCard : Claim7 := { stood := { row := patchAppliesLikeReferenceRow, standIns := [], harness := (true, "d764391cf22f76d447c6107359f95cf66710494fbacb3dd6ab85522dfeed45a8"), looks := true }, kinds := [], alts := [], laidByText := true, laidKinds := [.data, .pinned], laidTests := true, laidLooks := .later }
def PatchAppliesLikeReferenceCardSaid : Prop := Claim7.holds Tryz.pinned (.plain (OpenSpec.ofChange patchAppliesLikeReferenceSpec)) patchAppliesLikeReferenceCard

/-- THE TIED CARD OF 'koinelaw29.PatchOrder'. -/
def patchOrderCard : Claim7 := { stood := { row := patchOrderRow, standIns := [], harness := (true, "d764391cf22f76d447c6107359f95cf66710494fbacb3dd6ab85522dfeed45a8"), looks := true }, kinds := [], alts := [], laidByText := true, laidKinds := [.data, .pinned], laidTests := true, laidLooks := .later }
def PatchOrderCardSaid : Prop := Claim7.holds Tryz.pinned (.plain (OpenSpec.ofChange patchOrderSpec)) patchOrderCard

/-- THE TIED CARD OF 'koinelaw29.PatchShares'. -/
def patchSharesCard : Claim7 := { stood := { row := patchSharesRow, standIns := [], harness := (true, "d764391cf22f76d447c6107359f95cf66710494fbacb3dd6ab85522dfeed45a8"), looks := true }, kinds := [], alts := [], laidByText := true, laidKinds := [.data, .pinned], laidTests := true, laidLooks := .later }
def PatchSharesCardSaid : Prop := Claim7.holds Tryz.pinned (.plain (OpenSpec.ofChange patchSharesSpec)) patchSharesCard

/-- THE TIED CARD OF 'koinelaw29.PatchKeeps'. -/
def patchKeepsCard : Claim7 := { stood := { row := patchKeepsRow, standIns := [], harness := (true, "d764391cf22f76d447c6107359f95cf66710494fbacb3dd6ab85522dfeed45a8"), looks := true }, kinds := [], alts := [], laidByText := true, laidKinds := [.data, .pinned], laidTests := true, laidLooks := .later }
def PatchKeepsCardSaid : Prop := Claim7.holds Tryz.pinned (.plain (OpenSpec.ofChange patchKeepsSpec)) patchKeepsCard

/-- THE TIED CARD OF 'koinelaw29.PatchWeaves'. -/
def patchWeavesCard : Claim7 := { stood := { row := patchWeavesRow, standIns := [], harness := (true, "d764391cf22f76d447c6107359f95cf66710494fbacb3dd6ab85522dfeed45a8"), looks := true }, kinds := [], alts := [], laidByText := true, laidKinds := [.data, .pinned], laidTests := true, laidLooks := .later }
def PatchWeavesCardSaid : Prop := Claim7.holds Tryz.pinned (.plain (OpenSpec.ofChange patchWeavesSpec)) patchWeavesCard

/-- THE SECOND FORM's CARD OF 'koinelaw29.PatchEdits'. -/
def patchEditsUptoCard : Claim7 := { stood := { row := patchEditsUptoRow, standIns := [], harness := (true, "d764391cf22f76d447c6107359f95cf66710494fbacb3dd6ab85522dfeed45a8"), looks := true }, kinds := [], alts := [], laidByText := true, laidKinds := [.data, .pinned], laidTests := true, laidLooks := .later }
def PatchEditsUptoCardSaid : Prop := Claim7.holds Tryz.pinned (.plain (OpenSpec.upto patchEditsSpec)) patchEditsUptoCard

/-- THE SECOND FORM's CARD OF 'koinelaw29.PatchSections'. -/
def patchSectionsUptoCard : Claim7 := { stood := { row := patchSectionsUptoRow, standIns := [], harness := (true, "d764391cf22f76d447c6107359f95cf66710494fbacb3dd6ab85522dfeed45a8"), looks := true }, kinds := [], alts := [], laidByText := true, laidKinds := [.data, .pinned], laidTests := true, laidLooks := .later }
def PatchSectionsUptoCardSaid : Prop := Claim7.holds Tryz.pinned (.plain (OpenSpec.upto patchSectionsSpec)) patchSectionsUptoCard

/-- THE SECOND FORM's CARD OF 'koinelaw29.PatchWeavesLikeReference'. -/
def patchWeavesLikeReferenceUptoCard : Claim7 := { stood := { row := patchWeavesLikeReferenceUptoRow, standIns := [], harness := (true, "d764391cf22f76d447c6107359f95cf66710494fbacb3dd6ab85522dfeed45a8"), looks := true }, kinds := [], alts := [], laidByText := true, laidKinds := [.data, .pinned], laidTests := true, laidLooks := .later }
def PatchWeavesLikeReferenceUptoCardSaid : Prop := Claim7.holds Tryz.pinned (.plain (OpenSpec.upto patchWeavesLikeReferenceSpec)) patchWeavesLikeReferenceUptoCard

/-- THE SECOND FORM's CARD OF 'koinelaw29.PatchAppliesLikeReference'. -/
def patchAppliesLikeReferenceUptoCard : Claim7 := { stood := { row := patchAppliesLikeReferenceUptoRow, standIns := [], harness := (true, "d764391cf22f76d447c6107359f95cf66710494fbacb3dd6ab85522dfeed45a8"), looks := true }, kinds := [], alts := [], laidByText := true, laidKinds := [.data, .pinned], laidTests := true, laidLooks := .later }
def PatchAppliesLikeReferenceUptoCardSaid : Prop := Claim7.holds Tryz.pinned (.plain (OpenSpec.upto patchAppliesLikeReferenceSpec)) patchAppliesLikeReferenceUptoCard

/-- THE SECOND FORM's CARD OF 'koinelaw29.PatchOrder'. -/
def patchOrderUptoCard : Claim7 := { stood := { row := patchOrderUptoRow, standIns := [], harness := (true, "d764391cf22f76d447c6107359f95cf66710494fbacb3dd6ab85522dfeed45a8"), looks := true }, kinds := [], alts := [], laidByText := true, laidKinds := [.data, .pinned], laidTests := true, laidLooks := .later }
def PatchOrderUptoCardSaid : Prop := Claim7.holds Tryz.pinned (.plain (OpenSpec.upto patchOrderSpec)) patchOrderUptoCard

/-- THE SECOND FORM's CARD OF 'koinelaw29.PatchShares'. -/
def patchSharesUptoCard : Claim7 := { stood := { row := patchSharesUptoRow, standIns := [], harness := (true, "d764391cf22f76d447c6107359f95cf66710494fbacb3dd6ab85522dfeed45a8"), looks := true }, kinds := [], alts := [], laidByText := true, laidKinds := [.data, .pinned], laidTests := true, laidLooks := .later }
def PatchSharesUptoCardSaid : Prop := Claim7.holds Tryz.pinned (.plain (OpenSpec.upto patchSharesSpec)) patchSharesUptoCard

/-- THE SECOND FORM's CARD OF 'koinelaw29.PatchKeeps'. -/
def patchKeepsUptoCard : Claim7 := { stood := { row := patchKeepsUptoRow, standIns := [], harness := (true, "d764391cf22f76d447c6107359f95cf66710494fbacb3dd6ab85522dfeed45a8"), looks := true }, kinds := [], alts := [], laidByText := true, laidKinds := [.data, .pinned], laidTests := true, laidLooks := .later }
def PatchKeepsUptoCardSaid : Prop := Claim7.holds Tryz.pinned (.plain (OpenSpec.upto patchKeepsSpec)) patchKeepsUptoCard

/-- THE SECOND FORM's CARD OF 'koinelaw29.PatchWeaves'. -/
def patchWeavesUptoCard : Claim7 := { stood := { row := patchWeavesUptoRow, standIns := [], harness := (true, "d764391cf22f76d447c6107359f95cf66710494fbacb3dd6ab85522dfeed45a8"), looks := true }, kinds := [], alts := [], laidByText := true, laidKinds := [.data, .pinned], laidTests := true, laidLooks := .later }
def PatchWeavesUptoCardSaid : Prop := Claim7.holds Tryz.pinned (.plain (OpenSpec.upto patchWeavesSpec)) patchWeavesUptoCard
end Rows
end Go.Proofs.YtjabbbcdgmlojaaGreatDoor
