/- Bytes in a block, turned into a text. -/
import Derived.Laws.BytesArg
import Derived.Test.YtbjdgiocehoaiaaDoorHand
namespace Go.Proofs.YtbjdgiocehoaiaaDoor

/-- A byte as a cell holds it. -/
def byteV (c : UInt8) : Value := .int .u8 c.toNat
theorem conv_cells {P : Program} {w : World} {src e dst : TypeId} (hs : P.underlying src = some (.slice e)) (he : P.underlying e = some (.int .u8)) (hd : P.underlying dst = some .string) (g o cap : Nat) (l : List UInt8)
    (hc : ∀ i, (h : i < l.length) → w.cell? ⟨g, o + i, none⟩ = some (byteV l[i])) : (convert src dst (.slice (some ⟨g, o, none⟩) l.length cap)).run P w = .ok (.string ⟨l.toArray⟩) w := by
  have := run_convert_bytes_arg (P := P) w src e hs he g o l.length cap (l.map fun c => (c.toNat : Int)) (by simp) (fun i hi => by
    rw [hc i hi]; simp [byteV, List.getD, hi]) dst hd
  rw [this]
  congr 3
  unfold strOfNums
  congr 2
  rw [List.map_map]
  conv => rhs; rw [← List.map_id l]
  congr 1
  funext c
  simp

end Go.Proofs.YtbjdgiocehoaiaaDoor
