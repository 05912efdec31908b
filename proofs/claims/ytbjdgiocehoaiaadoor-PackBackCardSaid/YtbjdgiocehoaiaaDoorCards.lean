/-
  DERIVED. GIVEN WITH THE SEED: THE CARDS: each row of YtbjdgiocehoaiaaDoorRows.lean that lists a variable, with what it lists TIED to the program's text (the seventh form; the later family's looks); each row that meets fmt, with fmt's text TOLD by the authors' own Lean function (tested against real Go, not proved from fmt's source: count such statements apart). THE CARD IS WHAT COUNTS. Prove the row's statement (the work); the ties are given (YtbjdgiocehoaiaaDoorTie.lean); close each card by the builder's one call (the guide's Derived/Test/ToyasCard.lean, 'card_holds'). Laid BY PROGRAM, IN A SANDBOX (cutbox-door.mjs). By AI agents, Wed Nov 11 2026. No macro, syntax, notation, axiom, sorry.
-/
import Derived.Test.YtbjdgiocehoaiaaDoorRows
import GoSem.ClaimSeven
namespace Go.Proofs.YtbjdgiocehoaiaaDoor
namespace Rows

/-- THE TIED CARD OF 'hearsaylaw44.GlobChecks'. -/
def globChecksCard : Claim7 := { stood := { row := globChecksRow, standIns := [], harness := (true, "78e0a06935c4133b351cae0fb0d78cc05da008c2345ee57eaf125d62efdb2c2b"), looks := false }, kinds := [], alts := [], laidByText := true, laidKinds := [.data, .pinned], laidTests := true, laidLooks := .later }
def GlobChecksCardSaid : Prop := Claim7.holds Tryd.pinned (.plain (OpenSpec.ofChange globChecksSpec)) globChecksCard

/-- THE TIED CARD OF 'hearsaylaw44.GlobMatches'. -/
def globMatchesCard : Claim7 := { stood := { row := globMatchesRow, standIns := [], harness := (true, "78e0a06935c4133b351cae0fb0d78cc05da008c2345ee57eaf125d62efdb2c2b"), looks := false }, kinds := [], alts := [], laidByText := true, laidKinds := [.data, .pinned], laidTests := true, laidLooks := .later }
def GlobMatchesCardSaid : Prop := Claim7.holds Tryd.pinned (.plain (OpenSpec.ofChange globMatchesSpec)) globMatchesCard

/-- THE TIED CARD OF 'hearsaylaw44.GlobSelf'. -/
def globSelfCard : Claim7 := { stood := { row := globSelfRow, standIns := [], harness := (true, "78e0a06935c4133b351cae0fb0d78cc05da008c2345ee57eaf125d62efdb2c2b"), looks := false }, kinds := [], alts := [], laidByText := true, laidKinds := [.data, .pinned], laidTests := true, laidLooks := .later }
def GlobSelfCardSaid : Prop := Claim7.holds Tryd.pinned (.plain (OpenSpec.ofChange globSelfSpec)) globSelfCard

/-- THE TIED CARD OF 'hearsaylaw47.PackWrites'. -/
def packWritesCard : Claim7 := { stood := { row := packWritesRow, standIns := [], harness := (true, "78e0a06935c4133b351cae0fb0d78cc05da008c2345ee57eaf125d62efdb2c2b"), looks := false }, kinds := [], alts := [], laidByText := true, laidKinds := [.data, .pinned], laidTests := true, laidLooks := .later }
def PackWritesCardSaid : Prop := Claim7.holds Tryd.pinned (.plain (OpenSpec.ofChange packWritesSpec)) packWritesCard

/-- THE TIED CARD OF 'hearsaylaw47.PackReads'. -/
def packReadsCard : Claim7 := { stood := { row := packReadsRow, standIns := [], harness := (true, "78e0a06935c4133b351cae0fb0d78cc05da008c2345ee57eaf125d62efdb2c2b"), looks := false }, kinds := [], alts := [], laidByText := true, laidKinds := [.data, .pinned], laidTests := true, laidLooks := .later }
def PackReadsCardSaid : Prop := Claim7.holds Tryd.pinned (.plain (OpenSpec.ofChange packReadsSpec)) packReadsCard

/-- THE TIED CARD OF 'hearsaylaw47.PackBack'. -/
def packBackCard : Claim7 := { stood := { row := packBackRow, standIns := [], harness := (true, "78e0a06935c4133b351cae0fb0d78cc05da008c2345ee57eaf125d62efdb2c2b"), looks := false }, kinds := [], alts := [], laidByText := true, laidKinds := [.data, .pinned], laidTests := true, laidLooks := .later }
def PackBackCardSaid : Prop := Claim7.holds Tryd.pinned (.plain (OpenSpec.ofChange packBackSpec)) packBackCard

/-- THE SECOND FORM's CARD OF 'hearsaylaw44.GlobChecks'. -/
def globChecksUptoCard : Claim7 := { stood := { row := globChecksUptoRow, standIns := [], harness := (true, "78e0a06935c4133b351cae0fb0d78cc05da008c2345ee57eaf125d62efdb2c2b"), looks := false }, kinds := [], alts := [], laidByText := true, laidKinds := [.data, .pinned], laidTests := true, laidLooks := .later }
def GlobChecksUptoCardSaid : Prop := Claim7.holds Tryd.pinned (.plain (OpenSpec.upto globChecksSpec)) globChecksUptoCard

/-- THE SECOND FORM's CARD OF 'hearsaylaw44.GlobMatches'. -/
def globMatchesUptoCard : Claim7 := { stood := { row := globMatchesUptoRow, standIns := [], harness := (true, "78e0a06935c4133b351cae0fb0d78cc05da008c2345ee57eaf125d62efdb2c2b"), looks := false }, kinds := [], alts := [], laidByText := true, laidKinds := [.data, .pinned], laidTests := true, laidLooks := .later }
def GlobMatchesUptoCardSaid : Prop := Claim7.holds Tryd.pinned (.plain (OpenSpec.upto globMatchesSpec)) globMatchesUptoCard

/-- THE SECOND FORM's CARD OF 'hearsaylaw44.GlobSelf'. -/
def globSelfUptoCard : Claim7 := { stood := { row := globSelfUptoRow, standIns := [], harness := (true, "78e0a06935c4133b351cae0fb0d78cc05da008c2345ee57eaf125d62efdb2c2b"), looks := false }, kinds := [], alts := [], laidByText := true, laidKinds := [.data, .pinned], laidTests := true, laidLooks := .later }
def GlobSelfUptoCardSaid : Prop := Claim7.holds Tryd.pinned (.plain (OpenSpec.upto globSelfSpec)) globSelfUptoCard

/-- THE SECOND FORM's CARD OF 'hearsaylaw47.PackWrites'. -/
def packWritesUptoCard : Claim7 := { stood := { row := packWritesUptoRow, standIns := [], harness := (true, "78e0a06935c4133b351cae0fb0d78cc05da008c2345ee57eaf125d62efdb2c2b"), looks := false }, kinds := [], alts := [], laidByText := true, laidKinds := [.data, .pinned], laidTests := true, laidLooks := .later }
def PackWritesUptoCardSaid : Prop := Claim7.holds Tryd.pinned (.plain (OpenSpec.upto packWritesSpec)) packWritesUptoCard

/-- THE SECOND FORM's CARD OF 'hearsaylaw47.PackReads'. -/
def packReadsUptoCard : Claim7 := { stood := { row := packReadsUptoRow, standIns := [], harness := (true, "78e0a06935c4133b351cae0fb0d78cc05da008c2345ee57eaf125d62efdb2c2b"), looks := false }, kinds := [], alts := [], laidByText := true, laidKinds := [.data, .pinned], laidTests := true, laidLooks := .later }
def PackReadsUptoCardSaid : Prop := Claim7.holds Tryd.pinned (.plain (OpenSpec.upto packReadsSpec)) packReadsUptoCard

/-- THE SECOND FORM's CARD OF 'hearsaylaw47.PackBack'. -/
def packBackUptoCard : Claim7 := { stood := { row := packBackUptoRow, standIns := [], harness := (true, "78e0a06935c4133b351cae0fb0d78cc05da008c2345ee57eaf125d62efdb2c2b"), looks := false }, kinds := [], alts := [], laidByText := true, laidKinds := [.data, .pinned], laidTests := true, laidLooks := .later }
def PackBackUptoCardSaid : Prop := Claim7.holds Tryd.pinned (.plain (OpenSpec.upto packBackSpec)) packBackUptoCard
end Rows
end Go.Proofs.YtbjdgiocehoaiaaDoor
