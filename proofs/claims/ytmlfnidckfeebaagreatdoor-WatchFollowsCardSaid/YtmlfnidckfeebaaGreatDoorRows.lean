/-
  NARROWER THAN 'FOR EVERY INPUT', by the rows' own cells (each row's printed sentence says how): DeltaOpens: laid · DeltaNeeds: laid · DeltaAll: laid · DeltaMerges: laid · QuotaLimits: laid · QuotaKept: laid · WatchStill: laid · WatchBetween: laid · WatchFollows: laid · WatchLooks: laid · CkptWrites: laid · BatchWrites: laid.
  DERIVED. THE GIVEN ROWS OF THIS SEAT. 12 by the template 'for every input the law returns true; each argument reads behind the call as it read before'; 0 by the template 'total and deterministic' (their statements: YtmlfnidckfeebaaGreatDoorTotals.lean).
  GIVEN WITH THE SEED: the statements are not yours to turn. If you find one false, say at which input.
  Laid BY PROGRAM, IN A SANDBOX (cutbox-rows.mjs): the forced cells as the released guide's own fill.sh prints them over the translation fd850268e22ffa0d… (all of the seat's roots in one cut). By AI agents, Wed Nov 11 2026. No macro, syntax, notation, axiom, sorry.
-/
import Derived.Test.YtmlfnidckfeebaaGreatDoorChecked
import GoSem.PinnedTables
import GoSem.Claim
import GoSem.ClaimJoined
import GoSem.ClaimMapViews
import Derived.JoinedTies
import Derived.KernelRfl
namespace Go.Proofs.YtmlfnidckfeebaaGreatDoor
/- THE CELL 'sum', in the pinned program and in every row, IS THE sha256 OF THE DUMP (.gsa) THAT YtmlfnidckfeebaaGreatDoorProg.lean LOADS. Nothing in Lean hashes anything: it is a label: what it is worth is what the hold of that sum in a sandbox is worth. -/
noncomputable def Tryz.pinned : Pinned := { name := "ytmlfnidckfeebaagreatdoor", sum := "fd850268e22ffa0d8b07d54a80f7653867fc14c376e1f36c313b9381dedd31f9", checked := Tryz.checked }
namespace Rows
def none {H : Type} : Left H := { results := [], args := [] }

/- WHAT THE LISTED PACKAGE-LEVEL VARIABLES READ AS WHEN THE CALL BEGINS. Each datum BY PROGRAM (the guide's laid-datum.mjs) off the statement by which the dump's own 'gosem.cut.vars' lays the variable. In a bare row this is a premise. The card (YtmlfnidckfeebaaGreatDoorCards.lean) ties it to the program's text. -/
def laid_hearsay_hearsayref03_keys {H : Type} : DataW H := .agg [.lit (.int .u32 1116352408), .lit (.int .u32 1899447441), .lit (.int .u32 3049323471), .lit (.int .u32 3921009573), .lit (.int .u32 961987163), .lit (.int .u32 1508970993), .lit (.int .u32 2453635748), .lit (.int .u32 2870763221), .lit (.int .u32 3624381080), .lit (.int .u32 310598401), .lit (.int .u32 607225278), .lit (.int .u32 1426881987), .lit (.int .u32 1925078388), .lit (.int .u32 2162078206), .lit (.int .u32 2614888103), .lit (.int .u32 3248222580), .lit (.int .u32 3835390401), .lit (.int .u32 4022224774), .lit (.int .u32 264347078), .lit (.int .u32 604807628), .lit (.int .u32 770255983), .lit (.int .u32 1249150122), .lit (.int .u32 1555081692), .lit (.int .u32 1996064986), .lit (.int .u32 2554220882), .lit (.int .u32 2821834349), .lit (.int .u32 2952996808), .lit (.int .u32 3210313671), .lit (.int .u32 3336571891), .lit (.int .u32 3584528711), .lit (.int .u32 113926993), .lit (.int .u32 338241895), .lit (.int .u32 666307205), .lit (.int .u32 773529912), .lit (.int .u32 1294757372), .lit (.int .u32 1396182291), .lit (.int .u32 1695183700), .lit (.int .u32 1986661051), .lit (.int .u32 2177026350), .lit (.int .u32 2456956037), .lit (.int .u32 2730485921), .lit (.int .u32 2820302411), .lit (.int .u32 3259730800), .lit (.int .u32 3345764771), .lit (.int .u32 3516065817), .lit (.int .u32 3600352804), .lit (.int .u32 4094571909), .lit (.int .u32 275423344), .lit (.int .u32 430227734), .lit (.int .u32 506948616), .lit (.int .u32 659060556), .lit (.int .u32 883997877), .lit (.int .u32 958139571), .lit (.int .u32 1322822218), .lit (.int .u32 1537002063), .lit (.int .u32 1747873779), .lit (.int .u32 1955562222), .lit (.int .u32 2024104815), .lit (.int .u32 2227730452), .lit (.int .u32 2361852424), .lit (.int .u32 2428436474), .lit (.int .u32 2756734187), .lit (.int .u32 3204031479), .lit (.int .u32 3329325298)]
def laid_hearsay_sha_keys {H : Type} : DataW H := .agg [.lit (.int .u32 1116352408), .lit (.int .u32 1899447441), .lit (.int .u32 3049323471), .lit (.int .u32 3921009573), .lit (.int .u32 961987163), .lit (.int .u32 1508970993), .lit (.int .u32 2453635748), .lit (.int .u32 2870763221), .lit (.int .u32 3624381080), .lit (.int .u32 310598401), .lit (.int .u32 607225278), .lit (.int .u32 1426881987), .lit (.int .u32 1925078388), .lit (.int .u32 2162078206), .lit (.int .u32 2614888103), .lit (.int .u32 3248222580), .lit (.int .u32 3835390401), .lit (.int .u32 4022224774), .lit (.int .u32 264347078), .lit (.int .u32 604807628), .lit (.int .u32 770255983), .lit (.int .u32 1249150122), .lit (.int .u32 1555081692), .lit (.int .u32 1996064986), .lit (.int .u32 2554220882), .lit (.int .u32 2821834349), .lit (.int .u32 2952996808), .lit (.int .u32 3210313671), .lit (.int .u32 3336571891), .lit (.int .u32 3584528711), .lit (.int .u32 113926993), .lit (.int .u32 338241895), .lit (.int .u32 666307205), .lit (.int .u32 773529912), .lit (.int .u32 1294757372), .lit (.int .u32 1396182291), .lit (.int .u32 1695183700), .lit (.int .u32 1986661051), .lit (.int .u32 2177026350), .lit (.int .u32 2456956037), .lit (.int .u32 2730485921), .lit (.int .u32 2820302411), .lit (.int .u32 3259730800), .lit (.int .u32 3345764771), .lit (.int .u32 3516065817), .lit (.int .u32 3600352804), .lit (.int .u32 4094571909), .lit (.int .u32 275423344), .lit (.int .u32 430227734), .lit (.int .u32 506948616), .lit (.int .u32 659060556), .lit (.int .u32 883997877), .lit (.int .u32 958139571), .lit (.int .u32 1322822218), .lit (.int .u32 1537002063), .lit (.int .u32 1747873779), .lit (.int .u32 1955562222), .lit (.int .u32 2024104815), .lit (.int .u32 2227730452), .lit (.int .u32 2361852424), .lit (.int .u32 2428436474), .lit (.int .u32 2756734187), .lit (.int .u32 3204031479), .lit (.int .u32 3329325298)]
def laid_unicode_utf8_acceptRanges {H : Type} : DataW H := .agg [.agg [.lit (.int .u8 128), .lit (.int .u8 191)], .agg [.lit (.int .u8 160), .lit (.int .u8 191)], .agg [.lit (.int .u8 128), .lit (.int .u8 159)], .agg [.lit (.int .u8 144), .lit (.int .u8 191)], .agg [.lit (.int .u8 128), .lit (.int .u8 143)], .agg [.lit (.int .u8 0), .lit (.int .u8 0)], .agg [.lit (.int .u8 0), .lit (.int .u8 0)], .agg [.lit (.int .u8 0), .lit (.int .u8 0)], .agg [.lit (.int .u8 0), .lit (.int .u8 0)], .agg [.lit (.int .u8 0), .lit (.int .u8 0)], .agg [.lit (.int .u8 0), .lit (.int .u8 0)], .agg [.lit (.int .u8 0), .lit (.int .u8 0)], .agg [.lit (.int .u8 0), .lit (.int .u8 0)], .agg [.lit (.int .u8 0), .lit (.int .u8 0)], .agg [.lit (.int .u8 0), .lit (.int .u8 0)], .agg [.lit (.int .u8 0), .lit (.int .u8 0)]]
/-- One of Go's own tables, pinned by name: the form's constant. -/
def laid_unicode_utf8_first : DataW Unit := Go.Pinned.utf8First

/-- 'hearsaylaw18.DeltaOpens': WHATEVER THE INPUT: true; the input reads as it did. -/
def deltaOpensSpec : ChangeSpec := { name := "deltaOpens", fn := fun _ => fun
  | [d1, d2] => { results := [.lit (.bool true)], args := [d1, d2] }
  | _ => none }
def deltaOpensRow : OpenClaim := { program := "ytmlfnidckfeebaagreatdoor", sum := "fd850268e22ffa0d8b07d54a80f7653867fc14c376e1f36c313b9381dedd31f9", func := "hearsay/hearsaylaw18.DeltaOpens", spec := "deltaOpens", inPlace := ["internal/bytealg.CountString", "internal/bytealg.IndexByteString", "internal/bytealg.IndexString", "internal/abi.NoEscape", "slices.overlaps[string]", "slices.overlaps[*hearsay/tree.inner]"], unfollowed := true, recurses := true, named := ["unicode/utf8.first", "unicode/utf8.acceptRanges", "internal/bytealg.MaxLen", "hearsay/sha.keys", "hearsay/hearsayref03.keys"], apart := false, laid := [("hearsay/hearsayref03.keys", laid_hearsay_hearsayref03_keys), ("hearsay/sha.keys", laid_hearsay_sha_keys), ("unicode/utf8.acceptRanges", laid_unicode_utf8_acceptRanges), ("unicode/utf8.first", laid_unicode_utf8_first)] }
def DeltaOpensSaid : Prop := deltaOpensRow.holds Tryz.pinned (OpenSpec.ofChange deltaOpensSpec)

/-- ITS FALSE NEIGHBOUR: 'it returns false'. Refute it at one input. -/
def deltaOpensWrong : ChangeSpec := { name := "deltaOpens", fn := fun _ => fun
  | [d1, d2] => { results := [.lit (.bool false)], args := [d1, d2] }
  | _ => none }
def DeltaOpensWrongFalsely : Prop := deltaOpensRow.holds Tryz.pinned (OpenSpec.ofChange deltaOpensWrong)

/-- 'hearsaylaw18.DeltaNeeds': WHATEVER THE INPUT: true; the input reads as it did. -/
def deltaNeedsSpec : ChangeSpec := { name := "deltaNeeds", fn := fun _ => fun
  | [d1, d2] => { results := [.lit (.bool true)], args := [d1, d2] }
  | _ => none }
def deltaNeedsRow : OpenClaim := { program := "ytmlfnidckfeebaagreatdoor", sum := "fd850268e22ffa0d8b07d54a80f7653867fc14c376e1f36c313b9381dedd31f9", func := "hearsay/hearsaylaw18.DeltaNeeds", spec := "deltaNeeds", inPlace := ["internal/bytealg.CountString", "internal/bytealg.IndexByteString", "internal/bytealg.IndexString", "internal/abi.NoEscape", "slices.overlaps[string]", "slices.overlaps[*hearsay/tree.inner]", "internal/bytealg.MakeNoZero"], unfollowed := true, recurses := true, named := ["unicode/utf8.first", "unicode/utf8.acceptRanges", "internal/bytealg.MaxLen", "hearsay/sha.keys", "hearsay/hearsayref03.keys"], apart := false, laid := [("hearsay/hearsayref03.keys", laid_hearsay_hearsayref03_keys), ("hearsay/sha.keys", laid_hearsay_sha_keys), ("unicode/utf8.acceptRanges", laid_unicode_utf8_acceptRanges), ("unicode/utf8.first", laid_unicode_utf8_first)] }
def DeltaNeedsSaid : Prop := deltaNeedsRow.holds Tryz.pinned (OpenSpec.ofChange deltaNeedsSpec)

/-- ITS FALSE NEIGHBOUR: 'it returns false'. Refute it at one input. -/
def deltaNeedsWrong : ChangeSpec := { name := "deltaNeeds", fn := fun _ => fun
  | [d1, d2] => { results := [.lit (.bool false)], args := [d1, d2] }
  | _ => none }
def DeltaNeedsWrongFalsely : Prop := deltaNeedsRow.holds Tryz.pinned (OpenSpec.ofChange deltaNeedsWrong)

/-- 'hearsaylaw18.DeltaAll': WHATEVER THE INPUT: true; the input reads as it did. -/
def deltaAllSpec : ChangeSpec := { name := "deltaAll", fn := fun _ => fun
  | [d1, d2] => { results := [.lit (.bool true)], args := [d1, d2] }
  | _ => none }
def deltaAllRow : OpenClaim := { program := "ytmlfnidckfeebaagreatdoor", sum := "fd850268e22ffa0d8b07d54a80f7653867fc14c376e1f36c313b9381dedd31f9", func := "hearsay/hearsaylaw18.DeltaAll", spec := "deltaAll", inPlace := ["internal/bytealg.CountString", "internal/bytealg.IndexByteString", "internal/bytealg.IndexString", "internal/abi.NoEscape", "slices.overlaps[string]", "slices.overlaps[*hearsay/tree.inner]", "internal/bytealg.MakeNoZero"], unfollowed := true, recurses := true, named := ["unicode/utf8.first", "unicode/utf8.acceptRanges", "internal/bytealg.MaxLen", "hearsay/sha.keys", "hearsay/hearsayref03.keys"], apart := false, laid := [("hearsay/hearsayref03.keys", laid_hearsay_hearsayref03_keys), ("hearsay/sha.keys", laid_hearsay_sha_keys), ("unicode/utf8.acceptRanges", laid_unicode_utf8_acceptRanges), ("unicode/utf8.first", laid_unicode_utf8_first)] }
def DeltaAllSaid : Prop := deltaAllRow.holds Tryz.pinned (OpenSpec.ofChange deltaAllSpec)

/-- ITS FALSE NEIGHBOUR: 'it returns false'. Refute it at one input. -/
def deltaAllWrong : ChangeSpec := { name := "deltaAll", fn := fun _ => fun
  | [d1, d2] => { results := [.lit (.bool false)], args := [d1, d2] }
  | _ => none }
def DeltaAllWrongFalsely : Prop := deltaAllRow.holds Tryz.pinned (OpenSpec.ofChange deltaAllWrong)

/-- 'hearsaylaw18.DeltaMerges': WHATEVER THE INPUT: true; the input reads as it did. -/
def deltaMergesSpec : ChangeSpec := { name := "deltaMerges", fn := fun _ => fun
  | [d1, d2] => { results := [.lit (.bool true)], args := [d1, d2] }
  | _ => none }
def deltaMergesRow : OpenClaim := { program := "ytmlfnidckfeebaagreatdoor", sum := "fd850268e22ffa0d8b07d54a80f7653867fc14c376e1f36c313b9381dedd31f9", func := "hearsay/hearsaylaw18.DeltaMerges", spec := "deltaMerges", inPlace := ["internal/bytealg.CountString", "internal/bytealg.IndexByteString", "internal/bytealg.IndexString", "internal/abi.NoEscape", "slices.overlaps[string]", "slices.overlaps[*hearsay/tree.inner]", "internal/bytealg.MakeNoZero"], unfollowed := true, recurses := true, named := ["unicode/utf8.first", "unicode/utf8.acceptRanges", "internal/bytealg.MaxLen", "hearsay/sha.keys", "hearsay/hearsayref03.keys"], apart := false, laid := [("hearsay/hearsayref03.keys", laid_hearsay_hearsayref03_keys), ("hearsay/sha.keys", laid_hearsay_sha_keys), ("unicode/utf8.acceptRanges", laid_unicode_utf8_acceptRanges), ("unicode/utf8.first", laid_unicode_utf8_first)] }
def DeltaMergesSaid : Prop := deltaMergesRow.holds Tryz.pinned (OpenSpec.ofChange deltaMergesSpec)

/-- ITS FALSE NEIGHBOUR: 'it returns false'. Refute it at one input. -/
def deltaMergesWrong : ChangeSpec := { name := "deltaMerges", fn := fun _ => fun
  | [d1, d2] => { results := [.lit (.bool false)], args := [d1, d2] }
  | _ => none }
def DeltaMergesWrongFalsely : Prop := deltaMergesRow.holds Tryz.pinned (OpenSpec.ofChange deltaMergesWrong)

/-- 'hearsaylaw45.QuotaLimits': WHATEVER THE INPUT: true; the input reads as it did. -/
def quotaLimitsSpec : ChangeSpec := { name := "quotaLimits", fn := fun _ => fun
  | [d1, d2, d3] => { results := [.lit (.bool true)], args := [d1, d2, d3] }
  | _ => none }
def quotaLimitsRow : OpenClaim := { program := "ytmlfnidckfeebaagreatdoor", sum := "fd850268e22ffa0d8b07d54a80f7653867fc14c376e1f36c313b9381dedd31f9", func := "hearsay/hearsaylaw45.QuotaLimits", spec := "quotaLimits", inPlace := ["internal/bytealg.CountString", "internal/bytealg.IndexByteString", "internal/bytealg.IndexString", "internal/abi.NoEscape", "slices.overlaps[string]", "slices.overlaps[*hearsay/tree.inner]", "internal/bytealg.MakeNoZero"], unfollowed := true, recurses := true, named := ["unicode/utf8.first", "unicode/utf8.acceptRanges", "internal/bytealg.MaxLen", "hearsay/sha.keys"], apart := false, laid := [("hearsay/sha.keys", laid_hearsay_sha_keys), ("unicode/utf8.acceptRanges", laid_unicode_utf8_acceptRanges), ("unicode/utf8.first", laid_unicode_utf8_first)] }
def QuotaLimitsSaid : Prop := quotaLimitsRow.holds Tryz.pinned (OpenSpec.ofChange quotaLimitsSpec)

/-- ITS FALSE NEIGHBOUR: 'it returns false'. Refute it at one input. -/
def quotaLimitsWrong : ChangeSpec := { name := "quotaLimits", fn := fun _ => fun
  | [d1, d2, d3] => { results := [.lit (.bool false)], args := [d1, d2, d3] }
  | _ => none }
def QuotaLimitsWrongFalsely : Prop := quotaLimitsRow.holds Tryz.pinned (OpenSpec.ofChange quotaLimitsWrong)

/-- 'hearsaylaw45.QuotaKept': WHATEVER THE INPUT: true; the input reads as it did. -/
def quotaKeptSpec : ChangeSpec := { name := "quotaKept", fn := fun _ => fun
  | [d1, d2, d3] => { results := [.lit (.bool true)], args := [d1, d2, d3] }
  | _ => none }
def quotaKeptRow : OpenClaim := { program := "ytmlfnidckfeebaagreatdoor", sum := "fd850268e22ffa0d8b07d54a80f7653867fc14c376e1f36c313b9381dedd31f9", func := "hearsay/hearsaylaw45.QuotaKept", spec := "quotaKept", inPlace := ["internal/bytealg.CountString", "internal/bytealg.IndexByteString", "internal/bytealg.IndexString", "internal/abi.NoEscape", "slices.overlaps[string]", "slices.overlaps[*hearsay/tree.inner]", "internal/bytealg.MakeNoZero"], unfollowed := true, recurses := true, named := ["unicode/utf8.first", "unicode/utf8.acceptRanges", "internal/bytealg.MaxLen", "hearsay/sha.keys"], apart := false, laid := [("hearsay/sha.keys", laid_hearsay_sha_keys), ("unicode/utf8.acceptRanges", laid_unicode_utf8_acceptRanges), ("unicode/utf8.first", laid_unicode_utf8_first)] }
def QuotaKeptSaid : Prop := quotaKeptRow.holds Tryz.pinned (OpenSpec.ofChange quotaKeptSpec)

/-- ITS FALSE NEIGHBOUR: 'it returns false'. Refute it at one input. -/
def quotaKeptWrong : ChangeSpec := { name := "quotaKept", fn := fun _ => fun
  | [d1, d2, d3] => { results := [.lit (.bool false)], args := [d1, d2, d3] }
  | _ => none }
def QuotaKeptWrongFalsely : Prop := quotaKeptRow.holds Tryz.pinned (OpenSpec.ofChange quotaKeptWrong)

/-- 'hearsaylaw46.WatchStill': WHATEVER THE INPUT: true; the input reads as it did. -/
def watchStillSpec : ChangeSpec := { name := "watchStill", fn := fun _ => fun
  | [d] => { results := [.lit (.bool true)], args := [d] }
  | _ => none }
def watchStillRow : OpenClaim := { program := "ytmlfnidckfeebaagreatdoor", sum := "fd850268e22ffa0d8b07d54a80f7653867fc14c376e1f36c313b9381dedd31f9", func := "hearsay/hearsaylaw46.WatchStill", spec := "watchStill", inPlace := ["internal/bytealg.CountString", "internal/bytealg.IndexByteString", "internal/bytealg.IndexString", "internal/abi.NoEscape", "slices.overlaps[string]", "slices.overlaps[*hearsay/tree.inner]", "internal/bytealg.MakeNoZero"], unfollowed := true, recurses := true, named := ["unicode/utf8.first", "unicode/utf8.acceptRanges", "internal/bytealg.MaxLen", "hearsay/sha.keys"], apart := false, laid := [("hearsay/sha.keys", laid_hearsay_sha_keys), ("unicode/utf8.acceptRanges", laid_unicode_utf8_acceptRanges), ("unicode/utf8.first", laid_unicode_utf8_first)] }
def WatchStillSaid : Prop := watchStillRow.holds Tryz.pinned (OpenSpec.ofChange watchStillSpec)

/-- ITS FALSE NEIGHBOUR: 'it returns false'. Refute it at one input. -/
def watchStillWrong : ChangeSpec := { name := "watchStill", fn := fun _ => fun
  | [d] => { results := [.lit (.bool false)], args := [d] }
  | _ => none }
def WatchStillWrongFalsely : Prop := watchStillRow.holds Tryz.pinned (OpenSpec.ofChange watchStillWrong)

/-- 'hearsaylaw46.WatchBetween': WHATEVER THE INPUT: true; the input reads as it did. -/
def watchBetweenSpec : ChangeSpec := { name := "watchBetween", fn := fun _ => fun
  | [d1, d2] => { results := [.lit (.bool true)], args := [d1, d2] }
  | _ => none }
def watchBetweenRow : OpenClaim := { program := "ytmlfnidckfeebaagreatdoor", sum := "fd850268e22ffa0d8b07d54a80f7653867fc14c376e1f36c313b9381dedd31f9", func := "hearsay/hearsaylaw46.WatchBetween", spec := "watchBetween", inPlace := ["internal/bytealg.CountString", "internal/bytealg.IndexByteString", "internal/bytealg.IndexString", "internal/abi.NoEscape", "slices.overlaps[string]", "slices.overlaps[*hearsay/tree.inner]", "internal/bytealg.MakeNoZero"], unfollowed := true, recurses := true, named := ["unicode/utf8.first", "unicode/utf8.acceptRanges", "internal/bytealg.MaxLen", "hearsay/sha.keys", "hearsay/hearsayref03.keys"], apart := false, laid := [("hearsay/hearsayref03.keys", laid_hearsay_hearsayref03_keys), ("hearsay/sha.keys", laid_hearsay_sha_keys), ("unicode/utf8.acceptRanges", laid_unicode_utf8_acceptRanges), ("unicode/utf8.first", laid_unicode_utf8_first)] }
def WatchBetweenSaid : Prop := watchBetweenRow.holds Tryz.pinned (OpenSpec.ofChange watchBetweenSpec)

/-- ITS FALSE NEIGHBOUR: 'it returns false'. Refute it at one input. -/
def watchBetweenWrong : ChangeSpec := { name := "watchBetween", fn := fun _ => fun
  | [d1, d2] => { results := [.lit (.bool false)], args := [d1, d2] }
  | _ => none }
def WatchBetweenWrongFalsely : Prop := watchBetweenRow.holds Tryz.pinned (OpenSpec.ofChange watchBetweenWrong)

/-- 'hearsaylaw46.WatchFollows': WHATEVER THE INPUT: true; the input reads as it did. -/
def watchFollowsSpec : ChangeSpec := { name := "watchFollows", fn := fun _ => fun
  | [d1, d2] => { results := [.lit (.bool true)], args := [d1, d2] }
  | _ => none }
def watchFollowsRow : OpenClaim := { program := "ytmlfnidckfeebaagreatdoor", sum := "fd850268e22ffa0d8b07d54a80f7653867fc14c376e1f36c313b9381dedd31f9", func := "hearsay/hearsaylaw46.WatchFollows", spec := "watchFollows", inPlace := ["internal/bytealg.CountString", "internal/bytealg.IndexByteString", "internal/bytealg.IndexString", "internal/abi.NoEscape", "slices.overlaps[string]", "slices.overlaps[*hearsay/tree.inner]", "internal/bytealg.MakeNoZero"], unfollowed := true, recurses := true, named := ["unicode/utf8.first", "unicode/utf8.acceptRanges", "internal/bytealg.MaxLen", "hearsay/sha.keys", "hearsay/hearsayref03.keys"], apart := false, laid := [("hearsay/hearsayref03.keys", laid_hearsay_hearsayref03_keys), ("hearsay/sha.keys", laid_hearsay_sha_keys), ("unicode/utf8.acceptRanges", laid_unicode_utf8_acceptRanges), ("unicode/utf8.first", laid_unicode_utf8_first)] }
def WatchFollowsSaid : Prop := watchFollowsRow.holds Tryz.pinned (OpenSpec.ofChange watchFollowsSpec)

/-- ITS FALSE NEIGHBOUR: 'it returns false'. Refute it at one input. -/
def watchFollowsWrong : ChangeSpec := { name := "watchFollows", fn := fun _ => fun
  | [d1, d2] => { results := [.lit (.bool false)], args := [d1, d2] }
  | _ => none }
def WatchFollowsWrongFalsely : Prop := watchFollowsRow.holds Tryz.pinned (OpenSpec.ofChange watchFollowsWrong)

/-- 'hearsaylaw46.WatchLooks': WHATEVER THE INPUT: true; the input reads as it did. -/
def watchLooksSpec : ChangeSpec := { name := "watchLooks", fn := fun _ => fun
  | [d1, d2] => { results := [.lit (.bool true)], args := [d1, d2] }
  | _ => none }
def watchLooksRow : OpenClaim := { program := "ytmlfnidckfeebaagreatdoor", sum := "fd850268e22ffa0d8b07d54a80f7653867fc14c376e1f36c313b9381dedd31f9", func := "hearsay/hearsaylaw46.WatchLooks", spec := "watchLooks", inPlace := ["internal/bytealg.CountString", "internal/bytealg.IndexByteString", "internal/bytealg.IndexString", "internal/abi.NoEscape", "slices.overlaps[string]", "slices.overlaps[*hearsay/tree.inner]", "internal/bytealg.MakeNoZero"], unfollowed := true, recurses := true, named := ["unicode/utf8.first", "unicode/utf8.acceptRanges", "internal/bytealg.MaxLen", "hearsay/sha.keys", "hearsay/hearsayref03.keys"], apart := false, laid := [("hearsay/hearsayref03.keys", laid_hearsay_hearsayref03_keys), ("hearsay/sha.keys", laid_hearsay_sha_keys), ("unicode/utf8.acceptRanges", laid_unicode_utf8_acceptRanges), ("unicode/utf8.first", laid_unicode_utf8_first)] }
def WatchLooksSaid : Prop := watchLooksRow.holds Tryz.pinned (OpenSpec.ofChange watchLooksSpec)

/-- ITS FALSE NEIGHBOUR: 'it returns false'. Refute it at one input. -/
def watchLooksWrong : ChangeSpec := { name := "watchLooks", fn := fun _ => fun
  | [d1, d2] => { results := [.lit (.bool false)], args := [d1, d2] }
  | _ => none }
def WatchLooksWrongFalsely : Prop := watchLooksRow.holds Tryz.pinned (OpenSpec.ofChange watchLooksWrong)

/-- 'hearsaylaw24.CkptWrites': WHATEVER THE INPUT: true; the input reads as it did. -/
def ckptWritesSpec : ChangeSpec := { name := "ckptWrites", fn := fun _ => fun
  | [d1, d2] => { results := [.lit (.bool true)], args := [d1, d2] }
  | _ => none }
def ckptWritesRow : OpenClaim := { program := "ytmlfnidckfeebaagreatdoor", sum := "fd850268e22ffa0d8b07d54a80f7653867fc14c376e1f36c313b9381dedd31f9", func := "hearsay/hearsaylaw24.CkptWrites", spec := "ckptWrites", inPlace := ["internal/abi.NoEscape", "internal/bytealg.MakeNoZero", "internal/bytealg.CountString", "internal/bytealg.IndexByteString", "internal/bytealg.IndexString", "slices.overlaps[string]", "slices.overlaps[*hearsay/tree.inner]"], unfollowed := true, recurses := true, named := ["hearsay/sha.keys", "unicode/utf8.first", "unicode/utf8.acceptRanges", "internal/bytealg.MaxLen"], apart := false, laid := [("hearsay/sha.keys", laid_hearsay_sha_keys), ("unicode/utf8.acceptRanges", laid_unicode_utf8_acceptRanges), ("unicode/utf8.first", laid_unicode_utf8_first)] }
def CkptWritesSaid : Prop := ckptWritesRow.holds Tryz.pinned (OpenSpec.ofChange ckptWritesSpec)

/-- ITS FALSE NEIGHBOUR: 'it returns false'. Refute it at one input. -/
def ckptWritesWrong : ChangeSpec := { name := "ckptWrites", fn := fun _ => fun
  | [d1, d2] => { results := [.lit (.bool false)], args := [d1, d2] }
  | _ => none }
def CkptWritesWrongFalsely : Prop := ckptWritesRow.holds Tryz.pinned (OpenSpec.ofChange ckptWritesWrong)

/-- 'hearsaylaw21.BatchWrites': WHATEVER THE INPUT: true; the input reads as it did. -/
def batchWritesSpec : ChangeSpec := { name := "batchWrites", fn := fun _ => fun
  | [d] => { results := [.lit (.bool true)], args := [d] }
  | _ => none }
def batchWritesRow : OpenClaim := { program := "ytmlfnidckfeebaagreatdoor", sum := "fd850268e22ffa0d8b07d54a80f7653867fc14c376e1f36c313b9381dedd31f9", func := "hearsay/hearsaylaw21.BatchWrites", spec := "batchWrites", inPlace := ["internal/abi.NoEscape", "internal/bytealg.CountString", "internal/bytealg.IndexByteString", "internal/bytealg.IndexString", "slices.overlaps[string]", "slices.overlaps[*hearsay/tree.inner]", "internal/bytealg.abigen_runtime_cmpstring"], unfollowed := true, recurses := true, named := ["hearsay/sha.keys", "unicode/utf8.first", "unicode/utf8.acceptRanges", "internal/bytealg.MaxLen"], apart := false, laid := [("hearsay/sha.keys", laid_hearsay_sha_keys), ("unicode/utf8.acceptRanges", laid_unicode_utf8_acceptRanges), ("unicode/utf8.first", laid_unicode_utf8_first)] }
def BatchWritesSaid : Prop := batchWritesRow.holds Tryz.pinned (OpenSpec.ofChange batchWritesSpec)

/-- ITS FALSE NEIGHBOUR: 'it returns false'. Refute it at one input. -/
def batchWritesWrong : ChangeSpec := { name := "batchWrites", fn := fun _ => fun
  | [d] => { results := [.lit (.bool false)], args := [d] }
  | _ => none }
def BatchWritesWrongFalsely : Prop := batchWritesRow.holds Tryz.pinned (OpenSpec.ofChange batchWritesWrong)

/- THE SECOND FORM. 'bulk': how many values and letters a reading holds, each counted each time it is reached (what is shared counts as often as it is met; a slice's spare places count too). A statement '..UptoSaid' is the law's where the arguments, and the package variables that the reading takes, are together of bulk at most 1048576: NARROWER than '..Said'. Prove '..Said' where nothing that the law and all that it calls make is longer than what came in: it says more and counts as full. Else prove '..UptoSaid'. A law counts once. -/
mutual
def uptoBulk {H : Type} : DataW H → Nat
  | .lit (.string bytes) => bytes.length + 1
  | .lit _ => 1
  | .nil => 1
  | .ptr d => uptoBulk d + 1
  | .slice elems spare => uptoBulkAll elems + uptoBulkAll spare + 1
  | .agg parts => uptoBulkAll parts + 1
  | .iface _ d => uptoBulk d + 1
  | .map entries => uptoBulkEntries entries + 1
  | .held _ => 1
def uptoBulkAll {H : Type} : List (DataW H) → Nat
  | [] => 0
  | d :: r => uptoBulk d + uptoBulkAll r
def uptoBulkEntries {H : Type} : List (Lit × DataW H) → Nat
  | [] => 0
  | x :: r => uptoBulkEntry x + uptoBulkEntries r
def uptoBulkEntry {H : Type} : Lit × DataW H → Nat
  | (.string bytes, d) => bytes.length + uptoBulk d + 1
  | (_, d) => uptoBulk d + 1
 end
def uptoSmall : (H : Type) → List (DataW H) → Bool := fun _ ds => decide (uptoBulkAll ds ≤ 1048576)
def OpenSpec.upto (s : _root_.Go.ChangeSpec) : _root_.Go.OpenSpec := { _root_.Go.OpenSpec.ofChange s with cond := some uptoSmall }

/-- 'hearsaylaw18.DeltaOpens', WHERE WHAT IT READS IS OF BULK AT MOST 1048576: true; the input reads as it did. -/
def deltaOpensUptoRow : OpenClaim := { program := "ytmlfnidckfeebaagreatdoor", sum := "fd850268e22ffa0d8b07d54a80f7653867fc14c376e1f36c313b9381dedd31f9", func := "hearsay/hearsaylaw18.DeltaOpens", spec := "deltaOpens", inPlace := ["internal/bytealg.CountString", "internal/bytealg.IndexByteString", "internal/bytealg.IndexString", "internal/abi.NoEscape", "slices.overlaps[string]", "slices.overlaps[*hearsay/tree.inner]"], unfollowed := true, recurses := true, named := ["unicode/utf8.first", "unicode/utf8.acceptRanges", "internal/bytealg.MaxLen", "hearsay/sha.keys", "hearsay/hearsayref03.keys"], apart := false, laid := [("hearsay/hearsayref03.keys", laid_hearsay_hearsayref03_keys), ("hearsay/sha.keys", laid_hearsay_sha_keys), ("unicode/utf8.acceptRanges", laid_unicode_utf8_acceptRanges), ("unicode/utf8.first", laid_unicode_utf8_first)], narrowed := true }
def DeltaOpensUptoSaid : Prop := deltaOpensUptoRow.holds Tryz.pinned (OpenSpec.upto deltaOpensSpec)

/-- 'hearsaylaw18.DeltaNeeds', WHERE WHAT IT READS IS OF BULK AT MOST 1048576: true; the input reads as it did. -/
def deltaNeedsUptoRow : OpenClaim := { program := "ytmlfnidckfeebaagreatdoor", sum := "fd850268e22ffa0d8b07d54a80f7653867fc14c376e1f36c313b9381dedd31f9", func := "hearsay/hearsaylaw18.DeltaNeeds", spec := "deltaNeeds", inPlace := ["internal/bytealg.CountString", "internal/bytealg.IndexByteString", "internal/bytealg.IndexString", "internal/abi.NoEscape", "slices.overlaps[string]", "slices.overlaps[*hearsay/tree.inner]", "internal/bytealg.MakeNoZero"], unfollowed := true, recurses := true, named := ["unicode/utf8.first", "unicode/utf8.acceptRanges", "internal/bytealg.MaxLen", "hearsay/sha.keys", "hearsay/hearsayref03.keys"], apart := false, laid := [("hearsay/hearsayref03.keys", laid_hearsay_hearsayref03_keys), ("hearsay/sha.keys", laid_hearsay_sha_keys), ("unicode/utf8.acceptRanges", laid_unicode_utf8_acceptRanges), ("unicode/utf8.first", laid_unicode_utf8_first)], narrowed := true }
def DeltaNeedsUptoSaid : Prop := deltaNeedsUptoRow.holds Tryz.pinned (OpenSpec.upto deltaNeedsSpec)

/-- 'hearsaylaw18.DeltaAll', WHERE WHAT IT READS IS OF BULK AT MOST 1048576: true; the input reads as it did. -/
def deltaAllUptoRow : OpenClaim := { program := "ytmlfnidckfeebaagreatdoor", sum := "fd850268e22ffa0d8b07d54a80f7653867fc14c376e1f36c313b9381dedd31f9", func := "hearsay/hearsaylaw18.DeltaAll", spec := "deltaAll", inPlace := ["internal/bytealg.CountString", "internal/bytealg.IndexByteString", "internal/bytealg.IndexString", "internal/abi.NoEscape", "slices.overlaps[string]", "slices.overlaps[*hearsay/tree.inner]", "internal/bytealg.MakeNoZero"], unfollowed := true, recurses := true, named := ["unicode/utf8.first", "unicode/utf8.acceptRanges", "internal/bytealg.MaxLen", "hearsay/sha.keys", "hearsay/hearsayref03.keys"], apart := false, laid := [("hearsay/hearsayref03.keys", laid_hearsay_hearsayref03_keys), ("hearsay/sha.keys", laid_hearsay_sha_keys), ("unicode/utf8.acceptRanges", laid_unicode_utf8_acceptRanges), ("unicode/utf8.first", laid_unicode_utf8_first)], narrowed := true }
def DeltaAllUptoSaid : Prop := deltaAllUptoRow.holds Tryz.pinned (OpenSpec.upto deltaAllSpec)

/-- 'hearsaylaw18.DeltaMerges', WHERE WHAT IT READS IS OF BULK AT MOST 1048576: true; the input reads as it did. -/
def deltaMergesUptoRow : OpenClaim := { program := "ytmlfnidckfeebaagreatdoor", sum := "fd850268e22ffa0d8b07d54a80f7653867fc14c376e1f36c313b9381dedd31f9", func := "hearsay/hearsaylaw18.DeltaMerges", spec := "deltaMerges", inPlace := ["internal/bytealg.CountString", "internal/bytealg.IndexByteString", "internal/bytealg.IndexString", "internal/abi.NoEscape", "slices.overlaps[string]", "slices.overlaps[*hearsay/tree.inner]", "internal/bytealg.MakeNoZero"], unfollowed := true, recurses := true, named := ["unicode/utf8.first", "unicode/utf8.acceptRanges", "internal/bytealg.MaxLen", "hearsay/sha.keys", "hearsay/hearsayref03.keys"], apart := false, laid := [("hearsay/hearsayref03.keys", laid_hearsay_hearsayref03_keys), ("hearsay/sha.keys", laid_hearsay_sha_keys), ("unicode/utf8.acceptRanges", laid_unicode_utf8_acceptRanges), ("unicode/utf8.first", laid_unicode_utf8_first)], narrowed := true }
def DeltaMergesUptoSaid : Prop := deltaMergesUptoRow.holds Tryz.pinned (OpenSpec.upto deltaMergesSpec)

/-- 'hearsaylaw45.QuotaLimits', WHERE WHAT IT READS IS OF BULK AT MOST 1048576: true; the input reads as it did. -/
def quotaLimitsUptoRow : OpenClaim := { program := "ytmlfnidckfeebaagreatdoor", sum := "fd850268e22ffa0d8b07d54a80f7653867fc14c376e1f36c313b9381dedd31f9", func := "hearsay/hearsaylaw45.QuotaLimits", spec := "quotaLimits", inPlace := ["internal/bytealg.CountString", "internal/bytealg.IndexByteString", "internal/bytealg.IndexString", "internal/abi.NoEscape", "slices.overlaps[string]", "slices.overlaps[*hearsay/tree.inner]", "internal/bytealg.MakeNoZero"], unfollowed := true, recurses := true, named := ["unicode/utf8.first", "unicode/utf8.acceptRanges", "internal/bytealg.MaxLen", "hearsay/sha.keys"], apart := false, laid := [("hearsay/sha.keys", laid_hearsay_sha_keys), ("unicode/utf8.acceptRanges", laid_unicode_utf8_acceptRanges), ("unicode/utf8.first", laid_unicode_utf8_first)], narrowed := true }
def QuotaLimitsUptoSaid : Prop := quotaLimitsUptoRow.holds Tryz.pinned (OpenSpec.upto quotaLimitsSpec)

/-- 'hearsaylaw45.QuotaKept', WHERE WHAT IT READS IS OF BULK AT MOST 1048576: true; the input reads as it did. -/
def quotaKeptUptoRow : OpenClaim := { program := "ytmlfnidckfeebaagreatdoor", sum := "fd850268e22ffa0d8b07d54a80f7653867fc14c376e1f36c313b9381dedd31f9", func := "hearsay/hearsaylaw45.QuotaKept", spec := "quotaKept", inPlace := ["internal/bytealg.CountString", "internal/bytealg.IndexByteString", "internal/bytealg.IndexString", "internal/abi.NoEscape", "slices.overlaps[string]", "slices.overlaps[*hearsay/tree.inner]", "internal/bytealg.MakeNoZero"], unfollowed := true, recurses := true, named := ["unicode/utf8.first", "unicode/utf8.acceptRanges", "internal/bytealg.MaxLen", "hearsay/sha.keys"], apart := false, laid := [("hearsay/sha.keys", laid_hearsay_sha_keys), ("unicode/utf8.acceptRanges", laid_unicode_utf8_acceptRanges), ("unicode/utf8.first", laid_unicode_utf8_first)], narrowed := true }
def QuotaKeptUptoSaid : Prop := quotaKeptUptoRow.holds Tryz.pinned (OpenSpec.upto quotaKeptSpec)

/-- 'hearsaylaw46.WatchStill', WHERE WHAT IT READS IS OF BULK AT MOST 1048576: true; the input reads as it did. -/
def watchStillUptoRow : OpenClaim := { program := "ytmlfnidckfeebaagreatdoor", sum := "fd850268e22ffa0d8b07d54a80f7653867fc14c376e1f36c313b9381dedd31f9", func := "hearsay/hearsaylaw46.WatchStill", spec := "watchStill", inPlace := ["internal/bytealg.CountString", "internal/bytealg.IndexByteString", "internal/bytealg.IndexString", "internal/abi.NoEscape", "slices.overlaps[string]", "slices.overlaps[*hearsay/tree.inner]", "internal/bytealg.MakeNoZero"], unfollowed := true, recurses := true, named := ["unicode/utf8.first", "unicode/utf8.acceptRanges", "internal/bytealg.MaxLen", "hearsay/sha.keys"], apart := false, laid := [("hearsay/sha.keys", laid_hearsay_sha_keys), ("unicode/utf8.acceptRanges", laid_unicode_utf8_acceptRanges), ("unicode/utf8.first", laid_unicode_utf8_first)], narrowed := true }
def WatchStillUptoSaid : Prop := watchStillUptoRow.holds Tryz.pinned (OpenSpec.upto watchStillSpec)

/-- 'hearsaylaw46.WatchBetween', WHERE WHAT IT READS IS OF BULK AT MOST 1048576: true; the input reads as it did. -/
def watchBetweenUptoRow : OpenClaim := { program := "ytmlfnidckfeebaagreatdoor", sum := "fd850268e22ffa0d8b07d54a80f7653867fc14c376e1f36c313b9381dedd31f9", func := "hearsay/hearsaylaw46.WatchBetween", spec := "watchBetween", inPlace := ["internal/bytealg.CountString", "internal/bytealg.IndexByteString", "internal/bytealg.IndexString", "internal/abi.NoEscape", "slices.overlaps[string]", "slices.overlaps[*hearsay/tree.inner]", "internal/bytealg.MakeNoZero"], unfollowed := true, recurses := true, named := ["unicode/utf8.first", "unicode/utf8.acceptRanges", "internal/bytealg.MaxLen", "hearsay/sha.keys", "hearsay/hearsayref03.keys"], apart := false, laid := [("hearsay/hearsayref03.keys", laid_hearsay_hearsayref03_keys), ("hearsay/sha.keys", laid_hearsay_sha_keys), ("unicode/utf8.acceptRanges", laid_unicode_utf8_acceptRanges), ("unicode/utf8.first", laid_unicode_utf8_first)], narrowed := true }
def WatchBetweenUptoSaid : Prop := watchBetweenUptoRow.holds Tryz.pinned (OpenSpec.upto watchBetweenSpec)

/-- 'hearsaylaw46.WatchFollows', WHERE WHAT IT READS IS OF BULK AT MOST 1048576: true; the input reads as it did. -/
def watchFollowsUptoRow : OpenClaim := { program := "ytmlfnidckfeebaagreatdoor", sum := "fd850268e22ffa0d8b07d54a80f7653867fc14c376e1f36c313b9381dedd31f9", func := "hearsay/hearsaylaw46.WatchFollows", spec := "watchFollows", inPlace := ["internal/bytealg.CountString", "internal/bytealg.IndexByteString", "internal/bytealg.IndexString", "internal/abi.NoEscape", "slices.overlaps[string]", "slices.overlaps[*hearsay/tree.inner]", "internal/bytealg.MakeNoZero"], unfollowed := true, recurses := true, named := ["unicode/utf8.first", "unicode/utf8.acceptRanges", "internal/bytealg.MaxLen", "hearsay/sha.keys", "hearsay/hearsayref03.keys"], apart := false, laid := [("hearsay/hearsayref03.keys", laid_hearsay_hearsayref03_keys), ("hearsay/sha.keys", laid_hearsay_sha_keys), ("unicode/utf8.acceptRanges", laid_unicode_utf8_acceptRanges), ("unicode/utf8.first", laid_unicode_utf8_first)], narrowed := true }
def WatchFollowsUptoSaid : Prop := watchFollowsUptoRow.holds Tryz.pinned (OpenSpec.upto watchFollowsSpec)

/-- 'hearsaylaw46.WatchLooks', WHERE WHAT IT READS IS OF BULK AT MOST 1048576: true; the input reads as it did. -/
def watchLooksUptoRow : OpenClaim := { program := "ytmlfnidckfeebaagreatdoor", sum := "fd850268e22ffa0d8b07d54a80f7653867fc14c376e1f36c313b9381dedd31f9", func := "hearsay/hearsaylaw46.WatchLooks", spec := "watchLooks", inPlace := ["internal/bytealg.CountString", "internal/bytealg.IndexByteString", "internal/bytealg.IndexString", "internal/abi.NoEscape", "slices.overlaps[string]", "slices.overlaps[*hearsay/tree.inner]", "internal/bytealg.MakeNoZero"], unfollowed := true, recurses := true, named := ["unicode/utf8.first", "unicode/utf8.acceptRanges", "internal/bytealg.MaxLen", "hearsay/sha.keys", "hearsay/hearsayref03.keys"], apart := false, laid := [("hearsay/hearsayref03.keys", laid_hearsay_hearsayref03_keys), ("hearsay/sha.keys", laid_hearsay_sha_keys), ("unicode/utf8.acceptRanges", laid_unicode_utf8_acceptRanges), ("unicode/utf8.first", laid_unicode_utf8_first)], narrowed := true }
def WatchLooksUptoSaid : Prop := watchLooksUptoRow.holds Tryz.pinned (OpenSpec.upto watchLooksSpec)

/-- 'hearsaylaw24.CkptWrites', WHERE WHAT IT READS IS OF BULK AT MOST 1048576: true; the input reads as it did. -/
def ckptWritesUptoRow : OpenClaim := { program := "ytmlfnidckfeebaagreatdoor", sum := "fd850268e22ffa0d8b07d54a80f7653867fc14c376e1f36c313b9381dedd31f9", func := "hearsay/hearsaylaw24.CkptWrites", spec := "ckptWrites", inPlace := ["internal/abi.NoEscape", "internal/bytealg.MakeNoZero", "internal/bytealg.CountString", "internal/bytealg.IndexByteString", "internal/bytealg.IndexString", "slices.overlaps[string]", "slices.overlaps[*hearsay/tree.inner]"], unfollowed := true, recurses := true, named := ["hearsay/sha.keys", "unicode/utf8.first", "unicode/utf8.acceptRanges", "internal/bytealg.MaxLen"], apart := false, laid := [("hearsay/sha.keys", laid_hearsay_sha_keys), ("unicode/utf8.acceptRanges", laid_unicode_utf8_acceptRanges), ("unicode/utf8.first", laid_unicode_utf8_first)], narrowed := true }
def CkptWritesUptoSaid : Prop := ckptWritesUptoRow.holds Tryz.pinned (OpenSpec.upto ckptWritesSpec)

/-- 'hearsaylaw21.BatchWrites', WHERE WHAT IT READS IS OF BULK AT MOST 1048576: true; the input reads as it did. -/
def batchWritesUptoRow : OpenClaim := { program := "ytmlfnidckfeebaagreatdoor", sum := "fd850268e22ffa0d8b07d54a80f7653867fc14c376e1f36c313b9381dedd31f9", func := "hearsay/hearsaylaw21.BatchWrites", spec := "batchWrites", inPlace := ["internal/abi.NoEscape", "internal/bytealg.CountString", "internal/bytealg.IndexByteString", "internal/bytealg.IndexString", "slices.overlaps[string]", "slices.overlaps[*hearsay/tree.inner]", "internal/bytealg.abigen_runtime_cmpstring"], unfollowed := true, recurses := true, named := ["hearsay/sha.keys", "unicode/utf8.first", "unicode/utf8.acceptRanges", "internal/bytealg.MaxLen"], apart := false, laid := [("hearsay/sha.keys", laid_hearsay_sha_keys), ("unicode/utf8.acceptRanges", laid_unicode_utf8_acceptRanges), ("unicode/utf8.first", laid_unicode_utf8_first)], narrowed := true }
def BatchWritesUptoSaid : Prop := batchWritesUptoRow.holds Tryz.pinned (OpenSpec.upto batchWritesSpec)

end Rows
end Go.Proofs.YtmlfnidckfeebaaGreatDoor
