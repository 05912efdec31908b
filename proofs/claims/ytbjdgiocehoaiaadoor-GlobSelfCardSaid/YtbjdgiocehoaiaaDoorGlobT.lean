/- Walk: the statement GlobSelf of chapter 44. -/
import Derived.Test.YtbjdgiocehoaiaaDoorGlobL
import Derived.Test.YtbjdgiocehoaiaaDoorSpec44S
namespace Go.Proofs.YtbjdgiocehoaiaaDoor
open Go.RowKit

set_option maxHeartbeats 2000000 in
theorem self_calls (s : ByteArray) (w : World) (hsh : MaxAt w) : Calls Tryd.prog 5 #[.string s] w fun e w' => e = .returned (.bool true) ∧ Below w.heap.size w w' := by
  by_cases h : 100 < s.size
  · have e1 : decide ((100 : Int) < (s.size : Int)) = true := decide_eq_true (by omega)
    clear h
    go_enter Tryd.func5, Tryd.ntmps5
    go_wp2_with fail
    refine (awake44_calls w hsh).mono ?_
    rintro e w1 ⟨rfl, b1⟩
    go_wp2
    go_ret
    exact ⟨rfl, b1⟩
  have e1 : decide ((100 : Int) < (s.size : Int)) = false := decide_eq_false (by omega)
  by_cases hc : Sp.check s.data.toList = 0
  · obtain ⟨m1, m2, m3, m4, m5⟩ := Sp.self_all hc
    obtain ⟨hp, hp4, _⟩ := Sp.parts_of_check hc
    have e2 : (Sp.check s.data.toList != 0) = false := by rw [hc]; rfl
    have H3 := Lib.hid m3
    have H4 := Lib.hid m4
    have H5 := Lib.hid m5
    have HP := Lib.hid hp
    have C1 := Lib.hid fun W hW => gmatch_calls s s W hW (by omega)
    simp only [m1] at C1
    have C2 := Lib.hid fun W hW => gmatch_calls ⟨#[42, 42]⟩ s W hW (show 2 ≤ 900 by decide)
    have m2' : Sp.gmatch (ByteArray.mk #[42, 42]).data.toList s.data.toList = true := m2
    simp only [m2'] at C2
    clear m1 m2 m2' m3 m4 m5 hp hc
    go_enter Tryd.func5, Tryd.ntmps5
    go_wp2_with fail
    refine (rcheck_calls s w (by omega)).mono ?_
    rintro e w1 ⟨rfl, b1⟩
    go_wp2_with fail
    refine (rparts_calls s w1 (by omega)).mono ?_
    rintro e w2 ⟨b2, ⟨h0, _⟩ | ⟨g, cap, L, hl0, _, rfl, hL, _, _⟩⟩
    · rw [HP.out] at h0; exact absurd h0 (Sp.split_ne _)
    have hn : L.length = (Sp.split s.data.toList).length := by rw [← HP.out, ← hL, List.length_map]
    rw [← hn] at H3 H4 H5 hp4
    have B2 := keep_below b1 b2
    clear hL hn
    go_wp2_with fail
    go_loopw [3, 5] (fun t i wr => ∃ (k : Nat) (x : ByteArray), k ≤ L.length ∧ i = .int .i64 k ∧ t = .string x ∧ x.data.toList = Sp.starsB k ∧ Below w2.heap.size w2 wr) (fun _ i _ => L.length - (intOf i).toNat)
    case atStart => exact ⟨0, ⟨#[]⟩, Nat.zero_le _, rfl, rfl, rfl, Below.refl _ _⟩
    case round =>
      obtain ⟨k, x, hk, rfl, rfl, hx, hb⟩ := hrel
      have hxl : x.size ≤ 2 * k := by have := Sp.stars_len k; rw [← hx] at this; simpa using this
      have HX := Lib.hid hx
      clear hx
      by_cases hlt : k < L.length
      · cases k with
        | zero =>
          go_wp2_with fail
          go_roundw
          case rel => exact ⟨1, x ++ ⟨#[42]⟩, by omega, by go_num, rfl, by rw [ByteArray.data_append, Array.toList_append, HX.out]; rfl, hb⟩
          case measure => simp [intOf]; omega
        | succ k =>
          go_wp2_with fail
          go_roundw
          case rel => exact ⟨k + 1 + 1, x ++ ⟨#[47]⟩ ++ ⟨#[42]⟩, by omega, by go_num, rfl, by rw [ByteArray.data_append, ByteArray.data_append, Array.toList_append, Array.toList_append, HX.out]; simp [Sp.starsB], hb⟩
          case measure => simp [intOf]; omega
      · obtain rfl : k = L.length := by omega
        have C3 := Lib.hid fun W hW => gmatch_calls x s W hW (by omega)
        have C4 := Lib.hid fun W hW => gmatch_calls (x ++ ⟨#[47, 42]⟩) s W hW (by rw [ByteArray.size_append]; show x.size + 2 ≤ 900; omega)
        have C5 := Lib.hid fun W hW => gmatch_calls (x ++ ⟨#[47, 42, 42]⟩) s W hW (by rw [ByteArray.size_append]; show x.size + 3 ≤ 900; omega)
        have k4 : (x ++ ⟨#[47, 42]⟩ : ByteArray).data.toList = Sp.starsB L.length ++ [47, 42] := by rw [ByteArray.data_append, Array.toList_append, HX.out]
        have k5 : (x ++ ⟨#[47, 42, 42]⟩ : ByteArray).data.toList = Sp.starsB L.length ++ [47, 42, 42] := by rw [ByteArray.data_append, Array.toList_append, HX.out]
        simp only [HX.out, H3.out] at C3
        simp only [k4, H4.out] at C4
        simp only [k5, H5.out] at C5
        have BW := keep_below B2 hb
        clear k4 k5
        go_wp2_with fail
        refine (C1.out _ (max_kept hsh BW)).mono ?_
        rintro e w3 ⟨rfl, b3⟩
        have B3 := keep_below BW b3
        go_wp2_with fail
        refine (C2.out _ (max_kept hsh B3)).mono ?_
        rintro e w4 ⟨rfl, b4⟩
        have B4 := keep_below B3 b4
        go_wp2_with fail
        refine (C3.out _ (max_kept hsh B4)).mono ?_
        rintro e w5 ⟨rfl, b5⟩
        have B5 := keep_below B4 b5
        go_wp2_with fail
        refine (C4.out _ (max_kept hsh B5)).mono ?_
        rintro e w6 ⟨rfl, b6⟩
        have B6 := keep_below B5 b6
        go_wp2_with fail
        refine (C5.out _ (max_kept hsh B6)).mono ?_
        rintro e w7 ⟨rfl, b7⟩
        have B7 := keep_below B6 b7
        go_wp2_with fail
        refine (awake44_calls w7 (max_kept hsh B7)).mono ?_
        rintro e w8 ⟨rfl, b8⟩
        go_wp2
        go_ret
        exact ⟨rfl, keep_below B7 b8⟩
  · have e2 : (Sp.check s.data.toList != 0) = true := by simpa using hc
    clear hc
    go_enter Tryd.func5, Tryd.ntmps5
    go_wp2_with fail
    refine (rcheck_calls s w (by omega)).mono ?_
    rintro e w1 ⟨rfl, b1⟩
    go_wp2_with fail
    refine (awake44_calls w1 (max_kept hsh b1)).mono ?_
    rintro e w2 ⟨rfl, b2⟩
    go_wp2
    go_ret
    exact ⟨rfl, keep_below b1 b2⟩
end Go.Proofs.YtbjdgiocehoaiaaDoor
