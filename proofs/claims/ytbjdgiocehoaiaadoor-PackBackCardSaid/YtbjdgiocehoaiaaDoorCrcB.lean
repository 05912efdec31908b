/- Walks: a sum of thirty-two bits, of a text. -/
import Derived.Test.YtbjdgiocehoaiaaDoorCrcA
import Derived.Test.YtbjdgiocehoaiaaDoorBox
namespace Go.Proofs.YtbjdgiocehoaiaaDoor
open Go.RowKit
set_option maxHeartbeats 1000000 in
theorem crcwrite_calls (g B : Nat) (s : ByteArray) (w : World) (hB : B ≤ g) (hs : s.size < 4294967200) (hg : isBlk w g 104 #[.int .u32 0]) :
    Calls Tryd.prog 86 #[.pointer (some ⟨g, 0, none⟩), .string s] w fun e w' => e = .returned (.tuple #[]) ∧ isBlk w' g 104 #[.int .u32 ((Sp.crc s.data.toList : Nat) : Int)] ∧ Below B w w' := by
  have hl : s.data.toList.length = s.size := by simp
  go_enter Tryd.func86, Tryd.ntmps86
  go_wp2_with fail
  go_loopw [12] (fun v12 wr => ∃ k : Nat, k ≤ s.size ∧ v12 = .int .i64 k ∧ isBlk wr g 104 #[.int .u32 ((4294967295 - Sp.crcGo (s.data.toList.take k) : Nat) : Int)] ∧ Below B w wr) (fun v12 _ => s.size - (intOf v12).toNat)
  case atStart => exact ⟨0, Nat.zero_le _, rfl, by rw [List.take_zero, show Sp.crcGo [] = 4294967295 from rfl, Nat.sub_self]; exact hg, Below.refl _ _⟩
  case round =>
    obtain ⟨k, hk, rfl, hb, hbw⟩ := hrel
    by_cases hlt : k < s.size
    · have C := Lib.hid (crcstep_calls g _ s[k] wr (Sp.crcGo_lt (s.data.toList.take k)) hb)
      have F := Lib.hid (show Sp.crcGo (s.data.toList.take (k + 1)) = Sp.crcByte (Sp.crcGo (s.data.toList.take k)) s[k] by
        rw [List.take_add_one, List.getElem?_eq_getElem (by omega), Option.toList_some, Sp.crcGo_snoc]; rfl)
      have hb' := Lib.hid hb
      clear hb hl
      go_wp2_with (go_at_call 100; refine C.out.mono ?_; rintro e w' ⟨rfl, rfl⟩)
      go_roundw
      case rel => exact ⟨k + 1, by omega, by go_num, by rw [F.out]; exact hb'.out.put 0 _ rfl, hbw.setCell hB _⟩
      case measure => simp [intOf]; omega
    · obtain rfl : k = s.size := by omega
      rw [List.take_of_length_le (by omega)] at hb
      have hb' := Lib.hid hb
      clear hb hl
      go_wp2_with fail
      go_end0
      exact ⟨rfl, hb'.out, hbw⟩
theorem crcvalue_calls (g : Nat) (v : Int) (w : World) (hg : isBlk w g 104 #[.int .u32 v]) :
    Calls Tryd.prog 87 #[.pointer (some ⟨g, 0, none⟩)] w fun e w' => e = .returned (.int .u32 v) ∧ w = w' := by
  have c0 := hg.at 0 (by simp)
  simp only [List.getElem_toArray, List.getElem_cons_zero] at c0
  go_enter Tryd.func87, Tryd.ntmps87
  go_wp2_with fail
  go_ret
  exact ⟨rfl, rfl⟩
theorem crcof_calls (s : ByteArray) (w : World) (hs : s.size < 4294967200) :
    Calls Tryd.prog 67 #[.string s] w fun e w' => e = .returned (.int .u32 ((Sp.crc s.data.toList : Nat) : Int)) ∧ Below w.heap.size w w' := by
  go_enter Tryd.func67, Tryd.ntmps67
  go_wp2_with (first
    | ((with_reducible refine at_alloc (t := 104) rfl ?_); refine box_new rfl (cs := #[.int .u32 0]) (t := 104) (by first | (go_simp; done) | (go_simp; rfl)) ?_; intro g w1 hg hx hb1)
    | (go_at_call 86; refine (crcwrite_calls g w.heap.size s _ hg hs hx).mono ?_; rintro e w2 ⟨rfl, hx2, hb2⟩)
    | (go_at_call 87; refine (crcvalue_calls g _ _ hx2).mono ?_; rintro e w3 ⟨rfl, rfl⟩))
  go_ret
  exact ⟨rfl, hb1.trans hb2⟩
end Go.Proofs.YtbjdgiocehoaiaaDoor
