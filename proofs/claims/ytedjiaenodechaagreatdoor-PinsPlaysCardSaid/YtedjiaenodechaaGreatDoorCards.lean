/-
  DERIVED. GIVEN WITH THE SEED: THE CARDS: each row of YtedjiaenodechaaGreatDoorRows.lean that lists a variable, with what it lists TIED to the program's text (the seventh form; the later family's looks); each row that meets fmt, with fmt's text TOLD by the authors' own Lean function (tested against real Go, not proved from fmt's source: count such statements apart). THE CARD IS WHAT COUNTS. Prove the row's statement (the work); the ties are given (YtedjiaenodechaaGreatDoorTie.lean); close each card by the builder's one call (the guide's Derived/Test/ToyasCard.lean, 'card_holds'). Laid BY PROGRAM, IN A SANDBOX (cutbox-door.mjs). By AI agents, Wed Nov 11 2026. No macro, syntax, notation, axiom, sorry.
-/
import Derived.Test.YtedjiaenodechaaGreatDoorRows
import GoSem.ClaimSeven
namespace Go.Proofs.YtedjiaenodechaaGreatDoor
namespace Rows

/-- THE TIED CARD OF 'hearsaylaw15.TreeNodes'. -/
def treeNodesCard : Claim7 := { stood := { row := treeNodesRow, standIns := [], harness := (true, "389fb0c88d45b3be04b98385c72edbd86119486949fd4d1b91c1eed1d460a2bb"), looks := false }, kinds := [], alts := [], laidByText := true, laidKinds := [.data, .data, .data, .pinned], laidTests := true, laidLooks := .later }
def TreeNodesCardSaid : Prop := Claim7.holds Tryz.pinned (.plain (OpenSpec.ofChange treeNodesSpec)) treeNodesCard

/-- THE TIED CARD OF 'hearsaylaw28.PinsNil'. -/
def pinsNilCard : Claim7 := { stood := { row := pinsNilRow, standIns := [], harness := (true, "389fb0c88d45b3be04b98385c72edbd86119486949fd4d1b91c1eed1d460a2bb"), looks := false }, kinds := [], alts := [], laidByText := true, laidKinds := [.data, .data, .pinned], laidTests := true, laidLooks := .later }
def PinsNilCardSaid : Prop := Claim7.holds Tryz.pinned (.plain (OpenSpec.ofChange pinsNilSpec)) pinsNilCard

/-- THE TIED CARD OF 'hearsaylaw15.TreeOf'. -/
def treeOfCard : Claim7 := { stood := { row := treeOfRow, standIns := [], harness := (true, "389fb0c88d45b3be04b98385c72edbd86119486949fd4d1b91c1eed1d460a2bb"), looks := false }, kinds := [], alts := [], laidByText := true, laidKinds := [.data, .data, .data, .pinned], laidTests := true, laidLooks := .later }
def TreeOfCardSaid : Prop := Claim7.holds Tryz.pinned (.plain (OpenSpec.ofChange treeOfSpec)) treeOfCard

/-- THE TIED CARD OF 'hearsaylaw15.TreeApart'. -/
def treeApartCard : Claim7 := { stood := { row := treeApartRow, standIns := [], harness := (true, "389fb0c88d45b3be04b98385c72edbd86119486949fd4d1b91c1eed1d460a2bb"), looks := false }, kinds := [], alts := [], laidByText := true, laidKinds := [.data, .data, .data, .pinned], laidTests := true, laidLooks := .later }
def TreeApartCardSaid : Prop := Claim7.holds Tryz.pinned (.plain (OpenSpec.ofChange treeApartSpec)) treeApartCard

/-- THE TIED CARD OF 'hearsaylaw28.PinsPlays'. -/
def pinsPlaysCard : Claim7 := { stood := { row := pinsPlaysRow, standIns := [], harness := (true, "389fb0c88d45b3be04b98385c72edbd86119486949fd4d1b91c1eed1d460a2bb"), looks := false }, kinds := [], alts := [], laidByText := true, laidKinds := [.data, .data, .pinned], laidTests := true, laidLooks := .later }
def PinsPlaysCardSaid : Prop := Claim7.holds Tryz.pinned (.plain (OpenSpec.ofChange pinsPlaysSpec)) pinsPlaysCard

/-- THE TIED CARD OF 'hearsaylaw28.PinsHeld'. -/
def pinsHeldCard : Claim7 := { stood := { row := pinsHeldRow, standIns := [], harness := (true, "389fb0c88d45b3be04b98385c72edbd86119486949fd4d1b91c1eed1d460a2bb"), looks := false }, kinds := [], alts := [], laidByText := true, laidKinds := [.data, .data, .pinned], laidTests := true, laidLooks := .later }
def PinsHeldCardSaid : Prop := Claim7.holds Tryz.pinned (.plain (OpenSpec.ofChange pinsHeldSpec)) pinsHeldCard

/-- THE SECOND FORM's CARD OF 'hearsaylaw15.TreeNodes'. -/
def treeNodesUptoCard : Claim7 := { stood := { row := treeNodesUptoRow, standIns := [], harness := (true, "389fb0c88d45b3be04b98385c72edbd86119486949fd4d1b91c1eed1d460a2bb"), looks := false }, kinds := [], alts := [], laidByText := true, laidKinds := [.data, .data, .data, .pinned], laidTests := true, laidLooks := .later }
def TreeNodesUptoCardSaid : Prop := Claim7.holds Tryz.pinned (.plain (OpenSpec.upto treeNodesSpec)) treeNodesUptoCard

/-- THE SECOND FORM's CARD OF 'hearsaylaw28.PinsNil'. -/
def pinsNilUptoCard : Claim7 := { stood := { row := pinsNilUptoRow, standIns := [], harness := (true, "389fb0c88d45b3be04b98385c72edbd86119486949fd4d1b91c1eed1d460a2bb"), looks := false }, kinds := [], alts := [], laidByText := true, laidKinds := [.data, .data, .pinned], laidTests := true, laidLooks := .later }
def PinsNilUptoCardSaid : Prop := Claim7.holds Tryz.pinned (.plain (OpenSpec.upto pinsNilSpec)) pinsNilUptoCard

/-- THE SECOND FORM's CARD OF 'hearsaylaw15.TreeOf'. -/
def treeOfUptoCard : Claim7 := { stood := { row := treeOfUptoRow, standIns := [], harness := (true, "389fb0c88d45b3be04b98385c72edbd86119486949fd4d1b91c1eed1d460a2bb"), looks := false }, kinds := [], alts := [], laidByText := true, laidKinds := [.data, .data, .data, .pinned], laidTests := true, laidLooks := .later }
def TreeOfUptoCardSaid : Prop := Claim7.holds Tryz.pinned (.plain (OpenSpec.upto treeOfSpec)) treeOfUptoCard

/-- THE SECOND FORM's CARD OF 'hearsaylaw15.TreeApart'. -/
def treeApartUptoCard : Claim7 := { stood := { row := treeApartUptoRow, standIns := [], harness := (true, "389fb0c88d45b3be04b98385c72edbd86119486949fd4d1b91c1eed1d460a2bb"), looks := false }, kinds := [], alts := [], laidByText := true, laidKinds := [.data, .data, .data, .pinned], laidTests := true, laidLooks := .later }
def TreeApartUptoCardSaid : Prop := Claim7.holds Tryz.pinned (.plain (OpenSpec.upto treeApartSpec)) treeApartUptoCard

/-- THE SECOND FORM's CARD OF 'hearsaylaw28.PinsPlays'. -/
def pinsPlaysUptoCard : Claim7 := { stood := { row := pinsPlaysUptoRow, standIns := [], harness := (true, "389fb0c88d45b3be04b98385c72edbd86119486949fd4d1b91c1eed1d460a2bb"), looks := false }, kinds := [], alts := [], laidByText := true, laidKinds := [.data, .data, .pinned], laidTests := true, laidLooks := .later }
def PinsPlaysUptoCardSaid : Prop := Claim7.holds Tryz.pinned (.plain (OpenSpec.upto pinsPlaysSpec)) pinsPlaysUptoCard

/-- THE SECOND FORM's CARD OF 'hearsaylaw28.PinsHeld'. -/
def pinsHeldUptoCard : Claim7 := { stood := { row := pinsHeldUptoRow, standIns := [], harness := (true, "389fb0c88d45b3be04b98385c72edbd86119486949fd4d1b91c1eed1d460a2bb"), looks := false }, kinds := [], alts := [], laidByText := true, laidKinds := [.data, .data, .pinned], laidTests := true, laidLooks := .later }
def PinsHeldUptoCardSaid : Prop := Claim7.holds Tryz.pinned (.plain (OpenSpec.upto pinsHeldSpec)) pinsHeldUptoCard
end Rows
end Go.Proofs.YtedjiaenodechaaGreatDoor
