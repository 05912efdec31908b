/- Walks: a number that is written, the reference's. -/
import Derived.Test.YtbjdgiocehoaiaaDoorCountA
import Derived.Test.YtbjdgiocehoaiaaDoorBox
import Derived.Deep.RegionWith
namespace Go.Proofs.YtbjdgiocehoaiaaDoor
open Go.RowKit
/-- A byte in a new block, turned into a text, at once .. -/
theorem conv_one (c : UInt8) (W : World) : (convert 49 9 (.slice (some ⟨W.heap.size, 0, none⟩) 1 1)).run Tryd.prog (W.alloc (.cells #[.int .u8 c.toNat] 5 (0, 0))) = .ok (.string (strOf [c])) (W.alloc (.cells #[.int .u8 c.toNat] 5 (0, 0))) :=
  conv_cells Tryd.underlying49 Tryd.underlying5 Tryd.underlying9 W.heap.size 0 1 [c] (fun i hi => by
    obtain rfl : i = 0 := by simpa using hi
    rw [cell_of_row _ W.heap.size 0 _ _ (0, 0) (heap_alloc_new W _)]; rfl)
theorem conv_one' (c : UInt8) (W : World) : (convert 49 9 (.slice (some ⟨W.heap.size, 0, none⟩) 1 1)).run Tryd.prog (W.alloc (.cells #[.int .u8 c.toNat] 5 (0, 0))).drew = .ok (.string (strOf [c])) (W.alloc (.cells #[.int .u8 c.toNat] 5 (0, 0))).drew :=
  conv_cells Tryd.underlying49 Tryd.underlying5 Tryd.underlying9 W.heap.size 0 1 [c] (fun i hi => by
    obtain rfl : i = 0 := by simpa using hi
    exact (cell_of_row (W.alloc _) W.heap.size 0 _ _ (0, 0) (heap_alloc_new W _)).trans rfl)
/-- .. and behind a call. -/
theorem conv_later (c : UInt8) (W W1 : World) (hb : Below (W.alloc (.cells #[.int .u8 c.toNat] 5 (0, 0))).drew.heap.size (W.alloc (.cells #[.int .u8 c.toNat] 5 (0, 0))).drew W1) :
    (convert 49 9 (.slice (some ⟨W.heap.size, 0, none⟩) 1 1)).run Tryd.prog W1 = .ok (.string (strOf [c])) W1 :=
  conv_cells Tryd.underlying49 Tryd.underlying5 Tryd.underlying9 W.heap.size 0 1 [c] (fun i hi => by
    obtain rfl : i = 0 := by simpa using hi
    exact cellKept (W := (W.alloc (.cells #[.int .u8 c.toNat] 5 (0, 0))).drew) ((cell_of_row (W.alloc (.cells #[.int .u8 c.toNat] 5 (0, 0))) W.heap.size 0 _ _ (0, 0) (heap_alloc_new W _)).trans (by simp [byteV])) hb)
set_option maxRecDepth 100000 in
set_option maxHeartbeats 2000000 in
theorem rput_small (n : Nat) (w : World) (h : n < 128) : Calls Tryd.prog 69 #[.int .i64 n] w fun e w' => e = .returned (.string (strOf (Sp.cput n))) ∧ Below w.heap.size w w' := by
  obtain ⟨c, hc⟩ : ∃ c : UInt8, c = UInt8.ofNat n := ⟨_, rfl⟩
  have F := Lib.hid (show strOf [c] = strOf (Sp.cput n) by rw [Sp.cput.eq_def n, if_pos h, hc])
  have t3 : IntKind.u8.wrap (n : Int) = (c.toNat : Int) := by rw [IntKind.wrap_u8, hc]; simp
  have e1 : decide ((n : Int) < 128) = true := by rw [decide_eq_true_iff]; omega
  have e2 : decide ((n : Int) < 0) = false := by simp
  have e3 : decide ((1073741824 : Int) < (n : Int)) = false := by rw [decide_eq_false_iff_not]; omega
  have cv0 := conv_one c
  clear hc h
  go_enter Tryd.func69, Tryd.ntmps69
  go_wp2_with fail
  go_ret
  exact ⟨by rw [← F.out]; rfl, (Below.refl _ _).alloc (Nat.le_refl _) _⟩
set_option maxRecDepth 100000 in
set_option maxHeartbeats 2000000 in
theorem rput_nat : ∀ (m n : Nat) (w : World), n ≤ m → n ≤ 1073741824 →
    Calls Tryd.prog 69 #[.int .i64 n] w fun e w' => e = .returned (.string (strOf (Sp.cput n))) ∧ Below w.heap.size w w' := by
  intro m
  induction m with
  | zero =>
    intro n w hn hb
    exact rput_small n w (by omega)
  | succ m ih =>
    intro n w hn hb
    by_cases h : n < 128
    · exact rput_small n w h
    · have e1 : decide ((n : Int) < 128) = false := by rw [decide_eq_false_iff_not]; omega
      obtain ⟨c, hc⟩ : ∃ c : UInt8, c = UInt8.ofNat (n % 128 + 128) := ⟨_, rfl⟩
      have F := Lib.hid (show strOf [c] ++ strOf (Sp.cput (n / 128)) = strOf (Sp.cput n) by rw [strOf_append, strOf_data, Sp.cput.eq_def n, if_neg h, hc]; rfl)
      have IH := Lib.hid (show ∀ W : World, Calls Tryd.prog 69 #[.int .i64 ((n : Int) / 128)] W fun e w' => e = .returned (.string (strOf (Sp.cput (n / 128)))) ∧ Below W.heap.size W w' by
        intro W; rw [show (n : Int) / 128 = ((n / 128 : Nat) : Int) by omega]; exact ih (n / 128) W (by omega) (by omega))
      have t1 : (n : Int).tmod 128 = (n : Int) % 128 := Int.tmod_eq_emod_of_nonneg (Int.natCast_nonneg _)
      have t2 : IntKind.i64.wrap ((n : Int) % 128 + 128) = (n : Int) % 128 + 128 := IntWalk.i64_in _ (by omega)
      have t3 : IntKind.u8.wrap ((n : Int) % 128 + 128) = (c.toNat : Int) := by rw [IntKind.wrap_u8, hc]; simp
      have t4 : IntKind.i64.wrap ((n : Int) / 128) = (n : Int) / 128 := IntWalk.i64_in _ (by omega)
      have t5 : (strOf [c]).size = 1 := strOf_size _
      have t6 : (strOf (Sp.cput (n / 128))).size ≤ 5 := by rw [strOf_size]; exact Sp.cput_len _ (by omega)
      have e2 : decide ((n : Int) < 0) = false := by simp
      have e3 : decide ((1073741824 : Int) < (n : Int)) = false := by rw [decide_eq_false_iff_not]; omega
      have cv0 := conv_one c
      have cv1 := conv_one' c
      clear hc
      go_enter Tryd.func69, Tryd.ntmps69
      go_wp2_with fail
      go_region_with (first
        | (go_at_call 69; refine (IH.out _).mono ?_; rintro e w1 ⟨rfl, hb1⟩; first | have cv2 := conv_later _ _ _ hb1 | skip))
      all_goals
        go_wp2_with fail
        go_ret
        refine ⟨by rw [← F.out]; rfl, ?_⟩
        first
        | exact hb1.alloc hb1.size _
        | exact (((Below.refl _ w).alloc (Nat.le_refl _) (.cells #[.int .u8 c.toNat] 5 (0, 0))).drew).trans (hb1.mono (by simp))
        | exact ((Below.refl _ w).drew.trans hb1).alloc hb1.size _
/-- A number, whatever it is. -/
theorem rput_calls (n : Int) (w : World) : Calls Tryd.prog 69 #[.int .i64 n] w fun e w' => e = .returned (.string (strOf (Sp.put n))) ∧ Below w.heap.size w w' := by
  by_cases h : 0 ≤ n ∧ n ≤ 1073741824
  · have := rput_nat n.toNat n.toNat w (Nat.le_refl _) (by omega)
    rw [show ((n.toNat : Nat) : Int) = n by omega] at this
    rwa [show Sp.put n = Sp.cput n.toNat by unfold Sp.put; rw [if_pos h]]
  · have F := Lib.hid (show strOf (Sp.put n) = strOf [] by unfold Sp.put; rw [if_neg h])
    by_cases h0 : n < 0
    · have e1 : decide (n < 0) = true := decide_eq_true h0
      clear h h0
      go_enter Tryd.func69, Tryd.ntmps69
      go_wp2_with fail
      go_ret
      exact ⟨by rw [F.out]; rfl, Below.refl _ _⟩
    · have e1 : decide (n < 0) = false := decide_eq_false h0
      have e2 : decide (1073741824 < n) = true := decide_eq_true (by omega)
      clear h h0
      go_enter Tryd.func69, Tryd.ntmps69
      go_wp2_with fail
      go_ret
      exact ⟨by rw [F.out]; rfl, Below.refl _ _⟩
end Go.Proofs.YtbjdgiocehoaiaaDoor
