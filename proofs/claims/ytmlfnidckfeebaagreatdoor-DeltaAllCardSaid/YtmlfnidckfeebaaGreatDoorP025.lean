/- Walks, plain: Count is the document's; what is listed behind the last path; what is below a directory, in parts. Deltas, plain: what is opened is needed; what differs is told; the order. -/
import Derived.Test.YtmlfnidckfeebaaGreatDoorP021
namespace Go.Proofs.YtmlfnidckfeebaaGreatDoor
open Go.RowKit Go.Shelf
namespace Sp
theorem under_of {p d : Bs} (h : parts p ≠ [] ∧ (d = [] ∨ parts d ≠ []) ∧ (parts d).length < (parts p).length ∧ (parts p).take (parts d).length = parts d) : under p d = true := by
  unfold under
  simpa [and_assoc] using h
end Sp
end Go.Proofs.YtmlfnidckfeebaaGreatDoor
namespace Go.Proofs.YtmlfnidckfeebaaGreatDoor
open Go.RowKit
namespace Sp
theorem open_kid {a b : T} {f : Nat} {d : Bs} {k : Two} (hk : k ∈ kids2 (nodeS a d).2 (nodeS b d).2) (h : differ2 k = true) {p : Bs} (hp : p ∈ openT a b f (down d k.1)) : p ∈ openT a b (f + 1) d := by
  rw [openT]
  exact List.mem_cons_of_mem _ (List.mem_flatMap.2 ⟨k, List.mem_filter.2 ⟨hk, h⟩, hp⟩)
end Sp
end Go.Proofs.YtmlfnidckfeebaaGreatDoor
