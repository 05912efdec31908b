/- Walks: a sum of thirty-two bits. -/
import Derived.Test.YtbjdgiocehoaiaaDoorSpecCrc
import Derived.Test.YtbjdgiocehoaiaaDoorGlobA
namespace Go.Proofs.YtbjdgiocehoaiaaDoor
open Go.RowKit
theorem not32 (v : Nat) (hv : v < 4294967296) : bits .xor .u32 IntKind.u32.max ((4294967295 - v : Nat) : Int) = ((v : Nat) : Int) := by
  rw [show IntKind.u32.max = ((2 ^ 32 - 1 : Nat) : Int) by decide, bits_xor_u32_nat _ _ (by decide) (by omega), xor_ones32 _ (by omega)]
  omega
theorem not32' (v : Nat) (hv : v < 4294967296) : bits .xor .u32 IntKind.u32.max ((v : Nat) : Int) = ((4294967295 - v : Nat) : Int) := by
  rw [show IntKind.u32.max = ((2 ^ 32 - 1 : Nat) : Int) by decide, bits_xor_u32_nat _ _ (by decide) (by omega), xor_ones32 _ (by omega)]
set_option maxHeartbeats 1000000 in
theorem crcstep_calls (g : Nat) (v : Nat) (b : UInt8) (w : World) (hv : v < 4294967296) (hg : w.heap[g]? = some (.cells #[.int .u32 ((4294967295 - v : Nat) : Int)] 104 (0, 0))) :
    Calls Tryd.prog 100 #[.pointer (some ⟨g, 0, none⟩), .int .u8 b.toNat] w fun e w' => e = .returned (.tuple #[]) ∧ w' = w.setCell ⟨g, 0, none⟩ (.int .u32 ((4294967295 - Sp.crcByte v b : Nat) : Int)) := by
  have c0 : w.cell? ⟨g, 0, none⟩ = some (.int .u32 ((4294967295 - v : Nat) : Int)) := by simp [World.cell?, hg]
  have f0 : w.frozen? ⟨g, 0, none⟩ = false := by simp [World.frozen?, hg]
  have n1 := not32 v hv
  have n2 : bits .xor .u32 (v : Int) ((b.toNat : Int) % 4294967296) = ((v ^^^ b.toNat : Nat) : Int) := by
    have hb := b.toNat_lt
    rw [show (b.toNat : Int) % 4294967296 = (b.toNat : Int) by omega, bits_xor_u32_nat _ _ hv (by omega)]
  have hx : v ^^^ b.toNat < 4294967296 := Sp.xor_lt hv (by have := b.toNat_lt; omega)
  obtain ⟨x, hxx⟩ : ∃ x, x = v ^^^ b.toNat := ⟨_, rfl⟩
  have F := Lib.hid (show Sp.crcByte v b = Sp.crcBits 8 x by rw [hxx]; rfl)
  rw [← hxx] at hx n2
  clear hxx
  go_enter Tryd.func100, Tryd.ntmps100
  go_wp2_with fail
  go_loopw [4, 5, 14] (fun v4 _ v14 wr => ∃ k : Nat, k ≤ 8 ∧ v4 = .int .u32 ((Sp.crcBits k x : Nat) : Int) ∧ v14 = .int .i64 k ∧ wr = w) (fun _ _ v14 _ => 8 - (intOf v14).toNat)
  case atStart => exact ⟨0, Nat.zero_le _, rfl, rfl, rfl⟩
  case round =>
    obtain ⟨k, hk, rfl, rfl, rfl⟩ := hrel
    by_cases hk8 : k < 8
    · have hu := Sp.crcBits_lt hx k
      obtain ⟨u, hu'⟩ : ∃ u, u = Sp.crcBits k x := ⟨_, rfl⟩
      have G := Lib.hid (show Sp.crcBits (k + 1) x = Sp.crcBit u by rw [hu']; rfl)
      rw [← hu'] at hu
      rw [← hu']
      clear hu'
      have a1 := bits_and1_u32 u hu
      by_cases hb : u % 2 = 1
      · have a2 : bits .xor .u32 ((u : Int) / 2) 3988292384 = ((Sp.crcBit u : Nat) : Int) := by
          unfold Sp.crcBit
          rw [if_pos hb, show ((u : Int) / 2) = ((u / 2 : Nat) : Int) by omega, show (3988292384 : Int) = ((3988292384 : Nat) : Int) from rfl, bits_xor_u32_nat _ _ (by omega) (by decide)]
        rw [hb] at a1
        go_wp2_with fail
        go_roundw
        case rel => exact ⟨k + 1, by omega, by rw [G.out], by go_num, trivial⟩
        case measure => simp [intOf]; omega
      · have a2 : (u : Int) / 2 = ((Sp.crcBit u : Nat) : Int) := by unfold Sp.crcBit; rw [if_neg hb]; omega
        have hb0 : u % 2 = 0 := by omega
        rw [hb0] at a1
        go_wp2_with fail
        go_roundw
        case rel => exact ⟨k + 1, by omega, by rw [G.out], by go_num, trivial⟩
        case measure => simp [intOf]; omega
    · obtain rfl : k = 8 := by omega
      have hl := Sp.crcBits_lt hx 8
      have n3 := not32' _ hl
      go_wp2_with fail
      go_end0
      exact ⟨rfl, by rw [F.out]⟩
end Go.Proofs.YtbjdgiocehoaiaaDoor
