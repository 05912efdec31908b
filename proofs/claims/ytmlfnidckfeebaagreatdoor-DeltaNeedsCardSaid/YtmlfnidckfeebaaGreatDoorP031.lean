/- What the document finds at a directory of its list, and what the tree has there: plain. -/
import Derived.Test.YtmlfnidckfeebaaGreatDoorP015
namespace Go.Proofs.YtmlfnidckfeebaaGreatDoor
open Go.RowKit
namespace Sp
theorem findT_ne : ∀ (d : List Bs) (t s : T), Ok t → d ≠ [] → findT t d = some s → entries s ≠ []
  | [n], .mk leaf k, s, h, _, hs => by
    rw [findT] at hs
    change (kid k n).bind _ = some s at hs
    cases hk : kid k n with
    | none => rw [hk] at hs; cases hs
    | some u => rw [hk] at hs; cases hs; exact kid_ne k n _ h.2.2 hk
  | n :: m :: d, .mk leaf k, s, h, _, hs => by
    rw [findT] at hs
    change (kid k n).bind _ = some s at hs
    cases hk : kid k n with
    | none => rw [hk] at hs; cases hs
    | some u => rw [hk] at hs; exact findT_ne (m :: d) u s (kid_ok k n u h.2.2 hk) (by simp) hs
end Sp
end Go.Proofs.YtmlfnidckfeebaaGreatDoor
