/- Walks: a text that is sealed, and one that is opened. -/
import Derived.Test.YtbjdgiocehoaiaaDoorCrcB
import Derived.Test.YtbjdgiocehoaiaaDoorBytes
namespace Go.Proofs.YtbjdgiocehoaiaaDoor
open Go.RowKit
theorem le4_cells (v : Nat) (hv : v < 4294967296) (x0 x1 x2 x3 : Int) (h0 : x0 = (v : Int) % 256) (h1 : x1 = (v : Int) / 256 % 256) (h2 : x2 = (v : Int) / 65536 % 256) (h3 : x3 = (v : Int) / 16777216) (w : World) (t : TypeId) (i : Nat) (h : i < (Sp.le4 v).length) :
    (w.alloc (.cells #[.int .u8 x0, .int .u8 x1, .int .u8 x2, .int .u8 x3] t (0, 0))).cell? ⟨w.heap.size, 0 + i, none⟩ = some (byteV (Sp.le4 v)[i]) := by
  rw [cell_of_row _ w.heap.size (0 + i) _ _ (0, 0) (heap_alloc_new w _)]
  have h' : i < 4 := h
  subst h0 h1 h2 h3
  match i, h' with
  | 0, _ => simp [Sp.le4, byteV]
  | 1, _ => simp [Sp.le4, byteV]
  | 2, _ => simp [Sp.le4, byteV]
  | 3, _ => simp [Sp.le4, byteV]; omega
set_option maxRecDepth 100000 in
set_option maxHeartbeats 1000000 in
theorem seal_calls (s : ByteArray) (w : World) (hs : s.size < 4294967200) :
    Calls Tryd.prog 41 #[.string s] w fun e w' => e = .returned (.string (strOf (Sp.sealed s.data.toList))) ∧ Below w.heap.size w w' := by
  have hv : Sp.crc s.data.toList < 4294967296 := by unfold Sp.crc; omega
  have C := Lib.hid (crcof_calls s w hs)
  have F := Lib.hid (show s ++ strOf (Sp.le4 (Sp.crc s.data.toList)) = strOf (Sp.sealed s.data.toList) from strOf_append _ _)
  obtain ⟨v, hvv⟩ : ∃ v, v = Sp.crc s.data.toList := ⟨_, rfl⟩
  rw [← hvv] at hv C F
  clear hvv
  have z4 : (strOf (Sp.le4 v)).size = 4 := strOf_size _
  go_enter Tryd.func41, Tryd.ntmps41
  go_wp2_with (first
    | (go_at_call 67; refine C.out.mono ?_; rintro e w1 ⟨rfl, hb1⟩)
    | (refine conv_new rfl rfl Tryd.underlying49 Tryd.underlying5 Tryd.underlying9 w1.heap.size 0 4 4 (Sp.le4 v) rfl rfl ?cc ?_; (case cc => exact le4_cells v hv _ _ _ _ rfl rfl rfl rfl w1 _)))
  go_ret
  exact ⟨by rw [← F.out]; rfl, hb1.alloc hb1.size _⟩
set_option maxRecDepth 100000 in
set_option maxHeartbeats 1000000 in
theorem rcrcof_calls (s : ByteArray) (w : World) (hs : s.size < 4294967200) :
    Calls Tryd.prog 70 #[.string s] w fun e w' => e = .returned (.int .u32 ((Sp.crc s.data.toList : Nat) : Int)) ∧ w = w' := by
  have hl : s.data.toList.length = s.size := by simp
  go_enter Tryd.func70, Tryd.ntmps70
  go_wp2_with fail
  go_loopw [3, 4, 5] (fun v3 v4 _ wr => ∃ k : Nat, k ≤ s.size ∧ v3 = .int .u32 ((Sp.crcGo (s.data.toList.take k) : Nat) : Int) ∧ v4 = .int .i64 k ∧ w = wr) (fun _ v4 _ _ => s.size - (intOf v4).toNat)
  case atStart => exact ⟨0, Nat.zero_le _, rfl, rfl, rfl⟩
  case round =>
    obtain ⟨k, hk, rfl, rfl, rfl⟩ := hrel
    by_cases hlt : k < s.size
    · have hv := Sp.crcGo_lt (s.data.toList.take k)
      have F := Lib.hid (show Sp.crcGo (s.data.toList.take (k + 1)) = Sp.crcBits 8 (Sp.crcGo (s.data.toList.take k) ^^^ (s[k]).toNat) by
        rw [List.take_add_one, List.getElem?_eq_getElem (by omega), Option.toList_some, Sp.crcGo_snoc]; rfl)
      obtain ⟨v, hvv⟩ : ∃ v, v = Sp.crcGo (s.data.toList.take k) := ⟨_, rfl⟩
      rw [← hvv] at hv F
      rw [← hvv]
      clear hvv hl
      have n2 : bits .xor .u32 (v : Int) (((s[k]).toNat : Int) % 4294967296) = ((v ^^^ (s[k]).toNat : Nat) : Int) := by
        have hb := (s[k]).toNat_lt
        rw [show ((s[k]).toNat : Int) % 4294967296 = ((s[k]).toNat : Int) by omega, bits_xor_u32_nat _ _ hv (by omega)]
      have n3 : bits .xor .u32 (v : Int) (((s[k]).toNat : Int)) = ((v ^^^ (s[k]).toNat : Nat) : Int) := by
        have hb := (s[k]).toNat_lt
        rw [bits_xor_u32_nat _ _ hv (by omega)]
      have hx : v ^^^ (s[k]).toNat < 4294967296 := Sp.xor_lt hv (by have := (s[k]).toNat_lt; omega)
      obtain ⟨x, hxx⟩ : ∃ x, x = v ^^^ (s[k]).toNat := ⟨_, rfl⟩
      rw [← hxx] at hx n2 n3 F
      clear hxx
      go_wp2_with fail
      go_loopw [3, 5] (fun v3 v5 wr => ∃ j : Nat, j ≤ 8 ∧ v3 = .int .u32 ((Sp.crcBits j x : Nat) : Int) ∧ v5 = .int .i64 j ∧ w = wr) (fun _ v5 _ => 8 - (intOf v5).toNat)
      case atStart => exact ⟨0, Nat.zero_le _, rfl, rfl, rfl⟩
      case round =>
        obtain ⟨j, hj, rfl, rfl, rfl⟩ := hrel
        by_cases hj8 : j < 8
        · have hu := Sp.crcBits_lt hx j
          obtain ⟨u, hu'⟩ : ∃ u, u = Sp.crcBits j x := ⟨_, rfl⟩
          have G := Lib.hid (show Sp.crcBits (j + 1) x = Sp.crcBit u by rw [hu']; rfl)
          rw [← hu'] at hu
          rw [← hu']
          clear hu' F n2 n3
          by_cases hb : u % 2 = 1
          · have a2 : bits .xor .u32 ((u : Int) / 2) 3988292384 = ((Sp.crcBit u : Nat) : Int) := by
              unfold Sp.crcBit
              rw [if_pos hb, show ((u : Int) / 2) = ((u / 2 : Nat) : Int) by omega, show (3988292384 : Int) = ((3988292384 : Nat) : Int) from rfl, bits_xor_u32_nat _ _ (by omega) (by decide)]
            have b1 : ((u : Int) % 2 == 1) = true := by rw [beq_iff_eq]; omega
            go_wp2_with fail
            go_roundw
            case rel => exact ⟨j + 1, by omega, by rw [G.out], by go_num, trivial⟩
            case measure => simp [intOf]; omega
          · have a2 : (u : Int) / 2 = ((Sp.crcBit u : Nat) : Int) := by unfold Sp.crcBit; rw [if_neg hb]; omega
            have b1 : ((u : Int) % 2 == 1) = false := by rw [beq_eq_false_iff_ne]; omega
            go_wp2_with fail
            go_roundw
            case rel => exact ⟨j + 1, by omega, by rw [G.out], by go_num, trivial⟩
            case measure => simp [intOf]; omega
        · obtain rfl : j = 8 := by omega
          rw [← F.out]
          go_wp2_with fail
          go_roundw
          case rel => exact ⟨k + 1, by omega, rfl, by go_num, trivial⟩
          case measure => simp [intOf]; omega
    · obtain rfl : k = s.size := by omega
      have F := Lib.hid (show Sp.crcGo (s.data.toList.take s.size) = Sp.crcGo s.data.toList by rw [List.take_of_length_le (by omega)])
      have hv := Sp.crcGo_lt s.data.toList
      have G := Lib.hid (show Sp.crc s.data.toList = 4294967295 - Sp.crcGo s.data.toList from rfl)
      rw [F.out]
      obtain ⟨v, hvv⟩ : ∃ v, v = Sp.crcGo s.data.toList := ⟨_, rfl⟩
      rw [← hvv] at hv G
      rw [← hvv]
      clear hvv
      have n1 : IntKind.u32.wrap (4294967295 - (v : Int)) = ((4294967295 - v : Nat) : Int) := by rw [wr32 _ (by omega) (by omega)]; omega
      go_wp2_with fail
      go_ret
      exact ⟨by rw [G.out]; rfl, rfl⟩
set_option maxRecDepth 100000 in
set_option maxHeartbeats 1000000 in
theorem rseal_calls (s : ByteArray) (w : World) (hs : s.size < 4294967200) :
    Calls Tryd.prog 48 #[.string s] w fun e w' => e = .returned (.string (strOf (Sp.sealed s.data.toList))) ∧ Below w.heap.size w w' := by
  have hv : Sp.crc s.data.toList < 4294967296 := by unfold Sp.crc; omega
  have C := Lib.hid (rcrcof_calls s w hs)
  have F := Lib.hid (show s ++ strOf (Sp.le4 (Sp.crc s.data.toList)) = strOf (Sp.sealed s.data.toList) from strOf_append _ _)
  obtain ⟨v, hvv⟩ : ∃ v, v = Sp.crc s.data.toList := ⟨_, rfl⟩
  rw [← hvv] at hv C F
  clear hvv
  have z4 : (strOf (Sp.le4 v)).size = 4 := strOf_size _
  go_enter Tryd.func48, Tryd.ntmps48
  go_wp2_with (first
    | (go_at_call 70; refine C.out.mono ?_; rintro e w1 ⟨rfl, rfl⟩)
    | (refine conv_new rfl rfl Tryd.underlying49 Tryd.underlying5 Tryd.underlying9 w.heap.size 0 4 4 (Sp.le4 v) rfl rfl ?cc ?_; (case cc => exact le4_cells v hv _ _ _ _ (by omega) (by omega) (by omega) (by omega) w _)))
  go_ret
  exact ⟨by rw [← F.out]; rfl, (Below.refl _ _).alloc (Nat.le_refl _) _⟩
end Go.Proofs.YtbjdgiocehoaiaaDoor
