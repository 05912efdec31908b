/-
  DERIVED. GIVEN WITH THE SEED: THE CARDS: each row of YtmlfnidckfeebaaGreatDoorRows.lean that lists a variable, with what it lists TIED to the program's text (the seventh form; the later family's looks); each row that meets fmt, with fmt's text TOLD by the authors' own Lean function (tested against real Go, not proved from fmt's source: count such statements apart). THE CARD IS WHAT COUNTS. Prove the row's statement (the work); the ties are given (YtmlfnidckfeebaaGreatDoorTie.lean); close each card by the builder's one call (the guide's Derived/Test/ToyasCard.lean, 'card_holds'). Laid BY PROGRAM, IN A SANDBOX (cutbox-door.mjs). By AI agents, Wed Nov 11 2026. No macro, syntax, notation, axiom, sorry.
-/
import Derived.Test.YtmlfnidckfeebaaGreatDoorRows
import GoSem.ClaimSeven
namespace Go.Proofs.YtmlfnidckfeebaaGreatDoor
namespace Rows

/-- THE TIED CARD OF 'hearsaylaw18.DeltaOpens'. -/
def deltaOpensCard : Claim7 := { stood := { row := deltaOpensRow, standIns := [], harness := (true, "3ddb895b492ce49adad2fc0957ce38b5f7aac5cc8698ec671dabb84682573c6d"), looks := true }, kinds := [], alts := [], laidByText := true, laidKinds := [.data, .data, .data, .pinned], laidTests := true, laidLooks := .later }
def DeltaOpensCardSaid : Prop := Claim7.holds Tryz.pinned (.plain (OpenSpec.ofChange deltaOpensSpec)) deltaOpensCard

/-- THE TIED CARD OF 'hearsaylaw18.DeltaNeeds'. -/
def deltaNeedsCard : Claim7 := { stood := { row := deltaNeedsRow, standIns := [], harness := (true, "3ddb895b492ce49adad2fc0957ce38b5f7aac5cc8698ec671dabb84682573c6d"), looks := true }, kinds := [], alts := [], laidByText := true, laidKinds := [.data, .data, .data, .pinned], laidTests := true, laidLooks := .later }
def DeltaNeedsCardSaid : Prop := Claim7.holds Tryz.pinned (.plain (OpenSpec.ofChange deltaNeedsSpec)) deltaNeedsCard

/-- THE TIED CARD OF 'hearsaylaw18.DeltaAll'. -/
def deltaAllCard : Claim7 := { stood := { row := deltaAllRow, standIns := [], harness := (true, "3ddb895b492ce49adad2fc0957ce38b5f7aac5cc8698ec671dabb84682573c6d"), looks := true }, kinds := [], alts := [], laidByText := true, laidKinds := [.data, .data, .data, .pinned], laidTests := true, laidLooks := .later }
def DeltaAllCardSaid : Prop := Claim7.holds Tryz.pinned (.plain (OpenSpec.ofChange deltaAllSpec)) deltaAllCard

/-- THE TIED CARD OF 'hearsaylaw18.DeltaMerges'. -/
def deltaMergesCard : Claim7 := { stood := { row := deltaMergesRow, standIns := [], harness := (true, "3ddb895b492ce49adad2fc0957ce38b5f7aac5cc8698ec671dabb84682573c6d"), looks := true }, kinds := [], alts := [], laidByText := true, laidKinds := [.data, .data, .data, .pinned], laidTests := true, laidLooks := .later }
def DeltaMergesCardSaid : Prop := Claim7.holds Tryz.pinned (.plain (OpenSpec.ofChange deltaMergesSpec)) deltaMergesCard

/-- THE TIED CARD OF 'hearsaylaw45.QuotaLimits'. -/
def quotaLimitsCard : Claim7 := { stood := { row := quotaLimitsRow, standIns := [], harness := (true, "3ddb895b492ce49adad2fc0957ce38b5f7aac5cc8698ec671dabb84682573c6d"), looks := true }, kinds := [], alts := [], laidByText := true, laidKinds := [.data, .data, .pinned], laidTests := true, laidLooks := .later }
def QuotaLimitsCardSaid : Prop := Claim7.holds Tryz.pinned (.plain (OpenSpec.ofChange quotaLimitsSpec)) quotaLimitsCard

/-- THE TIED CARD OF 'hearsaylaw45.QuotaKept'. -/
def quotaKeptCard : Claim7 := { stood := { row := quotaKeptRow, standIns := [], harness := (true, "3ddb895b492ce49adad2fc0957ce38b5f7aac5cc8698ec671dabb84682573c6d"), looks := true }, kinds := [], alts := [], laidByText := true, laidKinds := [.data, .data, .pinned], laidTests := true, laidLooks := .later }
def QuotaKeptCardSaid : Prop := Claim7.holds Tryz.pinned (.plain (OpenSpec.ofChange quotaKeptSpec)) quotaKeptCard

/-- THE TIED CARD OF 'hearsaylaw46.WatchStill'. -/
def watchStillCard : Claim7 := { stood := { row := watchStillRow, standIns := [], harness := (true, "3ddb895b492ce49adad2fc0957ce38b5f7aac5cc8698ec671dabb84682573c6d"), looks := true }, kinds := [], alts := [], laidByText := true, laidKinds := [.data, .data, .pinned], laidTests := true, laidLooks := .later }
def WatchStillCardSaid : Prop := Claim7.holds Tryz.pinned (.plain (OpenSpec.ofChange watchStillSpec)) watchStillCard

/-- THE TIED CARD OF 'hearsaylaw46.WatchBetween'. -/
def watchBetweenCard : Claim7 := { stood := { row := watchBetweenRow, standIns := [], harness := (true, "3ddb895b492ce49adad2fc0957ce38b5f7aac5cc8698ec671dabb84682573c6d"), looks := true }, kinds := [], alts := [], laidByText := true, laidKinds := [.data, .data, .data, .pinned], laidTests := true, laidLooks := .later }
def WatchBetweenCardSaid : Prop := Claim7.holds Tryz.pinned (.plain (OpenSpec.ofChange watchBetweenSpec)) watchBetweenCard

/-- THE TIED CARD OF 'hearsaylaw46.WatchFollows'. -/
def watchFollowsCard : Claim7 := { stood := { row := watchFollowsRow, standIns := [], harness := (true, "3ddb895b492ce49adad2fc0957ce38b5f7aac5cc8698ec671dabb84682573c6d"), looks := true }, kinds := [], alts := [], laidByText := true, laidKinds := [.data, .data, .data, .pinned], laidTests := true, laidLooks := .later }
def WatchFollowsCardSaid : Prop := Claim7.holds Tryz.pinned (.plain (OpenSpec.ofChange watchFollowsSpec)) watchFollowsCard

/-- THE TIED CARD OF 'hearsaylaw46.WatchLooks'. -/
def watchLooksCard : Claim7 := { stood := { row := watchLooksRow, standIns := [], harness := (true, "3ddb895b492ce49adad2fc0957ce38b5f7aac5cc8698ec671dabb84682573c6d"), looks := true }, kinds := [], alts := [], laidByText := true, laidKinds := [.data, .data, .data, .pinned], laidTests := true, laidLooks := .later }
def WatchLooksCardSaid : Prop := Claim7.holds Tryz.pinned (.plain (OpenSpec.ofChange watchLooksSpec)) watchLooksCard

/-- THE TIED CARD OF 'hearsaylaw24.CkptWrites'. -/
def ckptWritesCard : Claim7 := { stood := { row := ckptWritesRow, standIns := [], harness := (true, "3ddb895b492ce49adad2fc0957ce38b5f7aac5cc8698ec671dabb84682573c6d"), looks := true }, kinds := [], alts := [], laidByText := true, laidKinds := [.data, .data, .pinned], laidTests := true, laidLooks := .later }
def CkptWritesCardSaid : Prop := Claim7.holds Tryz.pinned (.plain (OpenSpec.ofChange ckptWritesSpec)) ckptWritesCard

/-- THE TIED CARD OF 'hearsaylaw21.BatchWrites'. -/
def batchWritesCard : Claim7 := { stood := { row := batchWritesRow, standIns := [], harness := (true, "3ddb895b492ce49adad2fc0957ce38b5f7aac5cc8698ec671dabb84682573c6d"), looks := true }, kinds := [], alts := [], laidByText := true, laidKinds := [.data, .data, .pinned], laidTests := true, laidLooks := .later }
def BatchWritesCardSaid : Prop := Claim7.holds Tryz.pinned (.plain (OpenSpec.ofChange batchWritesSpec)) batchWritesCard

/-- THE SECOND FORM's CARD OF 'hearsaylaw18.DeltaOpens'. -/
def deltaOpensUptoCard : Claim7 := { stood := { row := deltaOpensUptoRow, standIns := [], harness := (true, "3ddb895b492ce49adad2fc0957ce38b5f7aac5cc8698ec671dabb84682573c6d"), looks := true }, kinds := [], alts := [], laidByText := true, laidKinds := [.data, .data, .data, .pinned], laidTests := true, laidLooks := .later }
def DeltaOpensUptoCardSaid : Prop := Claim7.holds Tryz.pinned (.plain (OpenSpec.upto deltaOpensSpec)) deltaOpensUptoCard

/-- THE SECOND FORM's CARD OF 'hearsaylaw18.DeltaNeeds'. -/
def deltaNeedsUptoCard : Claim7 := { stood := { row := deltaNeedsUptoRow, standIns := [], harness := (true, "3ddb895b492ce49adad2fc0957ce38b5f7aac5cc8698ec671dabb84682573c6d"), looks := true }, kinds := [], alts := [], laidByText := true, laidKinds := [.data, .data, .data, .pinned], laidTests := true, laidLooks := .later }
def DeltaNeedsUptoCardSaid : Prop := Claim7.holds Tryz.pinned (.plain (OpenSpec.upto deltaNeedsSpec)) deltaNeedsUptoCard

/-- THE SECOND FORM's CARD OF 'hearsaylaw18.DeltaAll'. -/
def deltaAllUptoCard : Claim7 := { stood := { row := deltaAllUptoRow, standIns := [], harness := (true, "3ddb895b492ce49adad2fc0957ce38b5f7aac5cc8698ec671dabb84682573c6d"), looks := true }, kinds := [], alts := [], laidByText := true, laidKinds := [.data, .data, .data, .pinned], laidTests := true, laidLooks := .later }
def DeltaAllUptoCardSaid : Prop := Claim7.holds Tryz.pinned (.plain (OpenSpec.upto deltaAllSpec)) deltaAllUptoCard

/-- THE SECOND FORM's CARD OF 'hearsaylaw18.DeltaMerges'. -/
def deltaMergesUptoCard : Claim7 := { stood := { row := deltaMergesUptoRow, standIns := [], harness := (true, "3ddb895b492ce49adad2fc0957ce38b5f7aac5cc8698ec671dabb84682573c6d"), looks := true }, kinds := [], alts := [], laidByText := true, laidKinds := [.data, .data, .data, .pinned], laidTests := true, laidLooks := .later }
def DeltaMergesUptoCardSaid : Prop := Claim7.holds Tryz.pinned (.plain (OpenSpec.upto deltaMergesSpec)) deltaMergesUptoCard

/-- THE SECOND FORM's CARD OF 'hearsaylaw45.QuotaLimits'. -/
def quotaLimitsUptoCard : Claim7 := { stood := { row := quotaLimitsUptoRow, standIns := [], harness := (true, "3ddb895b492ce49adad2fc0957ce38b5f7aac5cc8698ec671dabb84682573c6d"), looks := true }, kinds := [], alts := [], laidByText := true, laidKinds := [.data, .data, .pinned], laidTests := true, laidLooks := .later }
def QuotaLimitsUptoCardSaid : Prop := Claim7.holds Tryz.pinned (.plain (OpenSpec.upto quotaLimitsSpec)) quotaLimitsUptoCard

/-- THE SECOND FORM's CARD OF 'hearsaylaw45.QuotaKept'. -/
def quotaKeptUptoCard : Claim7 := { stood := { row := quotaKeptUptoRow, standIns := [], harness := (true, "3ddb895b492ce49adad2fc0957ce38b5f7aac5cc8698ec671dabb84682573c6d"), looks := true }, kinds := [], alts := [], laidByText := true, laidKinds := [.data, .data, .pinned], laidTests := true, laidLooks := .later }
def QuotaKeptUptoCardSaid : Prop := Claim7.holds Tryz.pinned (.plain (OpenSpec.upto quotaKeptSpec)) quotaKeptUptoCard

/-- THE SECOND FORM's CARD OF 'hearsaylaw46.WatchStill'. -/
def watchStillUptoCard : Claim7 := { stood := { row := watchStillUptoRow, standIns := [], harness := (true, "3ddb895b492ce49adad2fc0957ce38b5f7aac5cc8698ec671dabb84682573c6d"), looks := true }, kinds := [], alts := [], laidByText := true, laidKinds := [.data, .data, .pinned], laidTests := true, laidLooks := .later }
def WatchStillUptoCardSaid : Prop := Claim7.holds Tryz.pinned (.plain (OpenSpec.upto watchStillSpec)) watchStillUptoCard

/-- THE SECOND FORM's CARD OF 'hearsaylaw46.WatchBetween'. -/
def watchBetweenUptoCard : Claim7 := { stood := { row := watchBetweenUptoRow, standIns := [], harness := (true, "3ddb895b492ce49adad2fc0957ce38b5f7aac5cc8698ec671dabb84682573c6d"), looks := true }, kinds := [], alts := [], laidByText := true, laidKinds := [.data, .data, .data, .pinned], laidTests := true, laidLooks := .later }
def WatchBetweenUptoCardSaid : Prop := Claim7.holds Tryz.pinned (.plain (OpenSpec.upto watchBetweenSpec)) watchBetweenUptoCard

/-- THE SECOND FORM's CARD OF 'hearsaylaw46.WatchFollows'. -/
def watchFollowsUptoCard : Claim7 := { stood := { row := watchFollowsUptoRow, standIns := [], harness := (true, "3ddb895b492ce49adad2fc0957ce38b5f7aac5cc8698ec671dabb84682573c6d"), looks := true }, kinds := [], alts := [], laidByText := true, laidKinds := [.data, .data, .data, .pinned], laidTests := true, laidLooks := .later }
def WatchFollowsUptoCardSaid : Prop := Claim7.holds Tryz.pinned (.plain (OpenSpec.upto watchFollowsSpec)) watchFollowsUptoCard

/-- THE SECOND FORM's CARD OF 'hearsaylaw46.WatchLooks'. -/
def watchLooksUptoCard : Claim7 := { stood := { row := watchLooksUptoRow, standIns := [], harness := (true, "3ddb895b492ce49adad2fc0957ce38b5f7aac5cc8698ec671dabb84682573c6d"), looks := true }, kinds := [], alts := [], laidByText := true, laidKinds := [.data, .data, .data, .pinned], laidTests := true, laidLooks := .later }
def WatchLooksUptoCardSaid : Prop := Claim7.holds Tryz.pinned (.plain (OpenSpec.upto watchLooksSpec)) watchLooksUptoCard

/-- THE SECOND FORM's CARD OF 'hearsaylaw24.CkptWrites'. -/
def ckptWritesUptoCard : Claim7 := { stood := { row := ckptWritesUptoRow, standIns := [], harness := (true, "3ddb895b492ce49adad2fc0957ce38b5f7aac5cc8698ec671dabb84682573c6d"), looks := true }, kinds := [], alts := [], laidByText := true, laidKinds := [.data, .data, .pinned], laidTests := true, laidLooks := .later }
def CkptWritesUptoCardSaid : Prop := Claim7.holds Tryz.pinned (.plain (OpenSpec.upto ckptWritesSpec)) ckptWritesUptoCard

/-- THE SECOND FORM's CARD OF 'hearsaylaw21.BatchWrites'. -/
def batchWritesUptoCard : Claim7 := { stood := { row := batchWritesUptoRow, standIns := [], harness := (true, "3ddb895b492ce49adad2fc0957ce38b5f7aac5cc8698ec671dabb84682573c6d"), looks := true }, kinds := [], alts := [], laidByText := true, laidKinds := [.data, .data, .pinned], laidTests := true, laidLooks := .later }
def BatchWritesUptoCardSaid : Prop := Claim7.holds Tryz.pinned (.plain (OpenSpec.upto batchWritesSpec)) batchWritesUptoCard
end Rows
end Go.Proofs.YtmlfnidckfeebaaGreatDoor
