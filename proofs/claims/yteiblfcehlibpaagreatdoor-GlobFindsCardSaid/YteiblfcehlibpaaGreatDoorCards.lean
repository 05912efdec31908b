/-
  DERIVED. GIVEN WITH THE SEED: THE CARDS: each row of YteiblfcehlibpaaGreatDoorRows.lean that lists a variable, with what it lists TIED to the program's text (the seventh form; the later family's looks); each row that meets fmt, with fmt's text TOLD by the authors' own Lean function (tested against real Go, not proved from fmt's source: count such statements apart). THE CARD IS WHAT COUNTS. Prove the row's statement (the work); the ties are given (YteiblfcehlibpaaGreatDoorTie.lean); close each card by the builder's one call (the guide's Derived/Test/ToyasCard.lean, 'card_holds'). Laid BY PROGRAM, IN A SANDBOX (cutbox-door.mjs). By AI agents, Wed Nov 11 2026. No macro, syntax, notation, axiom, sorry.
-/
import Derived.Test.YteiblfcehlibpaaGreatDoorRows
import GoSem.ClaimSeven
namespace Go.Proofs.YteiblfcehlibpaaGreatDoor
namespace Rows

/-- THE TIED CARD OF 'hearsaylaw18.DeltaOpens'. -/
def deltaOpensCard : Claim7 := { stood := { row := deltaOpensRow, standIns := [], harness := (true, "42aed7589b12958bbdeb78fe4e99929d2b3488ad0177148cdefbb64f87d578da"), looks := false }, kinds := [], alts := [], laidByText := true, laidKinds := [.data, .data, .data, .pinned], laidTests := true, laidLooks := .later }
def DeltaOpensCardSaid : Prop := Claim7.holds Tryz.pinned (.plain (OpenSpec.ofChange deltaOpensSpec)) deltaOpensCard

/-- THE TIED CARD OF 'hearsaylaw16.WalkParts'. -/
def walkPartsCard : Claim7 := { stood := { row := walkPartsRow, standIns := [], harness := (true, "42aed7589b12958bbdeb78fe4e99929d2b3488ad0177148cdefbb64f87d578da"), looks := false }, kinds := [], alts := [], laidByText := true, laidKinds := [.data, .data, .pinned], laidTests := true, laidLooks := .later }
def WalkPartsCardSaid : Prop := Claim7.holds Tryz.pinned (.plain (OpenSpec.ofChange walkPartsSpec)) walkPartsCard

/-- THE TIED CARD OF 'hearsaylaw45.QuotaUses'. -/
def quotaUsesCard : Claim7 := { stood := { row := quotaUsesRow, standIns := [], harness := (true, "42aed7589b12958bbdeb78fe4e99929d2b3488ad0177148cdefbb64f87d578da"), looks := false }, kinds := [], alts := [], laidByText := true, laidKinds := [.data, .data, .pinned], laidTests := true, laidLooks := .later }
def QuotaUsesCardSaid : Prop := Claim7.holds Tryz.pinned (.plain (OpenSpec.ofChange quotaUsesSpec)) quotaUsesCard

/-- THE TIED CARD OF 'hearsaylaw16.WalkAll'. -/
def walkAllCard : Claim7 := { stood := { row := walkAllRow, standIns := [], harness := (true, "42aed7589b12958bbdeb78fe4e99929d2b3488ad0177148cdefbb64f87d578da"), looks := false }, kinds := [], alts := [], laidByText := true, laidKinds := [.data, .data, .pinned], laidTests := true, laidLooks := .later }
def WalkAllCardSaid : Prop := Claim7.holds Tryz.pinned (.plain (OpenSpec.ofChange walkAllSpec)) walkAllCard

/-- THE TIED CARD OF 'hearsaylaw16.WalkDirs'. -/
def walkDirsCard : Claim7 := { stood := { row := walkDirsRow, standIns := [], harness := (true, "42aed7589b12958bbdeb78fe4e99929d2b3488ad0177148cdefbb64f87d578da"), looks := false }, kinds := [], alts := [], laidByText := true, laidKinds := [.data, .data, .pinned], laidTests := true, laidLooks := .later }
def WalkDirsCardSaid : Prop := Claim7.holds Tryz.pinned (.plain (OpenSpec.ofChange walkDirsSpec)) walkDirsCard

/-- THE TIED CARD OF 'hearsaylaw45.QuotaParts'. -/
def quotaPartsCard : Claim7 := { stood := { row := quotaPartsRow, standIns := [], harness := (true, "42aed7589b12958bbdeb78fe4e99929d2b3488ad0177148cdefbb64f87d578da"), looks := false }, kinds := [], alts := [], laidByText := true, laidKinds := [.data, .data, .pinned], laidTests := true, laidLooks := .later }
def QuotaPartsCardSaid : Prop := Claim7.holds Tryz.pinned (.plain (OpenSpec.ofChange quotaPartsSpec)) quotaPartsCard

/-- THE TIED CARD OF 'hearsaylaw44.GlobFinds'. -/
def globFindsCard : Claim7 := { stood := { row := globFindsRow, standIns := [], harness := (true, "42aed7589b12958bbdeb78fe4e99929d2b3488ad0177148cdefbb64f87d578da"), looks := false }, kinds := [], alts := [], laidByText := true, laidKinds := [.data, .data, .pinned], laidTests := true, laidLooks := .later }
def GlobFindsCardSaid : Prop := Claim7.holds Tryz.pinned (.plain (OpenSpec.ofChange globFindsSpec)) globFindsCard

/-- THE TIED CARD OF 'hearsaylaw16.WalkLists'. -/
def walkListsCard : Claim7 := { stood := { row := walkListsRow, standIns := [], harness := (true, "42aed7589b12958bbdeb78fe4e99929d2b3488ad0177148cdefbb64f87d578da"), looks := false }, kinds := [], alts := [], laidByText := true, laidKinds := [.data, .data, .pinned], laidTests := true, laidLooks := .later }
def WalkListsCardSaid : Prop := Claim7.holds Tryz.pinned (.plain (OpenSpec.ofChange walkListsSpec)) walkListsCard

/-- THE SECOND FORM's CARD OF 'hearsaylaw18.DeltaOpens'. -/
def deltaOpensUptoCard : Claim7 := { stood := { row := deltaOpensUptoRow, standIns := [], harness := (true, "42aed7589b12958bbdeb78fe4e99929d2b3488ad0177148cdefbb64f87d578da"), looks := false }, kinds := [], alts := [], laidByText := true, laidKinds := [.data, .data, .data, .pinned], laidTests := true, laidLooks := .later }
def DeltaOpensUptoCardSaid : Prop := Claim7.holds Tryz.pinned (.plain (OpenSpec.upto deltaOpensSpec)) deltaOpensUptoCard

/-- THE SECOND FORM's CARD OF 'hearsaylaw16.WalkParts'. -/
def walkPartsUptoCard : Claim7 := { stood := { row := walkPartsUptoRow, standIns := [], harness := (true, "42aed7589b12958bbdeb78fe4e99929d2b3488ad0177148cdefbb64f87d578da"), looks := false }, kinds := [], alts := [], laidByText := true, laidKinds := [.data, .data, .pinned], laidTests := true, laidLooks := .later }
def WalkPartsUptoCardSaid : Prop := Claim7.holds Tryz.pinned (.plain (OpenSpec.upto walkPartsSpec)) walkPartsUptoCard

/-- THE SECOND FORM's CARD OF 'hearsaylaw45.QuotaUses'. -/
def quotaUsesUptoCard : Claim7 := { stood := { row := quotaUsesUptoRow, standIns := [], harness := (true, "42aed7589b12958bbdeb78fe4e99929d2b3488ad0177148cdefbb64f87d578da"), looks := false }, kinds := [], alts := [], laidByText := true, laidKinds := [.data, .data, .pinned], laidTests := true, laidLooks := .later }
def QuotaUsesUptoCardSaid : Prop := Claim7.holds Tryz.pinned (.plain (OpenSpec.upto quotaUsesSpec)) quotaUsesUptoCard

/-- THE SECOND FORM's CARD OF 'hearsaylaw16.WalkAll'. -/
def walkAllUptoCard : Claim7 := { stood := { row := walkAllUptoRow, standIns := [], harness := (true, "42aed7589b12958bbdeb78fe4e99929d2b3488ad0177148cdefbb64f87d578da"), looks := false }, kinds := [], alts := [], laidByText := true, laidKinds := [.data, .data, .pinned], laidTests := true, laidLooks := .later }
def WalkAllUptoCardSaid : Prop := Claim7.holds Tryz.pinned (.plain (OpenSpec.upto walkAllSpec)) walkAllUptoCard

/-- THE SECOND FORM's CARD OF 'hearsaylaw16.WalkDirs'. -/
def walkDirsUptoCard : Claim7 := { stood := { row := walkDirsUptoRow, standIns := [], harness := (true, "42aed7589b12958bbdeb78fe4e99929d2b3488ad0177148cdefbb64f87d578da"), looks := false }, kinds := [], alts := [], laidByText := true, laidKinds := [.data, .data, .pinned], laidTests := true, laidLooks := .later }
def WalkDirsUptoCardSaid : Prop := Claim7.holds Tryz.pinned (.plain (OpenSpec.upto walkDirsSpec)) walkDirsUptoCard

/-- THE SECOND FORM's CARD OF 'hearsaylaw45.QuotaParts'. -/
def quotaPartsUptoCard : Claim7 := { stood := { row := quotaPartsUptoRow, standIns := [], harness := (true, "42aed7589b12958bbdeb78fe4e99929d2b3488ad0177148cdefbb64f87d578da"), looks := false }, kinds := [], alts := [], laidByText := true, laidKinds := [.data, .data, .pinned], laidTests := true, laidLooks := .later }
def QuotaPartsUptoCardSaid : Prop := Claim7.holds Tryz.pinned (.plain (OpenSpec.upto quotaPartsSpec)) quotaPartsUptoCard

/-- THE SECOND FORM's CARD OF 'hearsaylaw44.GlobFinds'. -/
def globFindsUptoCard : Claim7 := { stood := { row := globFindsUptoRow, standIns := [], harness := (true, "42aed7589b12958bbdeb78fe4e99929d2b3488ad0177148cdefbb64f87d578da"), looks := false }, kinds := [], alts := [], laidByText := true, laidKinds := [.data, .data, .pinned], laidTests := true, laidLooks := .later }
def GlobFindsUptoCardSaid : Prop := Claim7.holds Tryz.pinned (.plain (OpenSpec.upto globFindsSpec)) globFindsUptoCard

/-- THE SECOND FORM's CARD OF 'hearsaylaw16.WalkLists'. -/
def walkListsUptoCard : Claim7 := { stood := { row := walkListsUptoRow, standIns := [], harness := (true, "42aed7589b12958bbdeb78fe4e99929d2b3488ad0177148cdefbb64f87d578da"), looks := false }, kinds := [], alts := [], laidByText := true, laidKinds := [.data, .data, .pinned], laidTests := true, laidLooks := .later }
def WalkListsUptoCardSaid : Prop := Claim7.holds Tryz.pinned (.plain (OpenSpec.upto walkListsSpec)) walkListsUptoCard
end Rows
end Go.Proofs.YteiblfcehlibpaaGreatDoor
