/- Walks: names, pieces and patterns, the program's and the reference's. -/
import Derived.Test.YtbjdgiocehoaiaaDoorShelf
import Derived.Test.YtbjdgiocehoaiaaDoorHand
import Derived.Test.YtbjdgiocehoaiaaDoorSpec04
namespace Go.Proofs.YtbjdgiocehoaiaaDoor
open Go.RowKit

theorem indexByte_mem (c : UInt8) : ∀ l : List UInt8, -1 ≤ Lib.indexByte l c ∧ (0 ≤ Lib.indexByte l c ↔ c ∈ l)
  | [] => by simp [Lib.indexByte]
  | b :: l => by
    have ih := indexByte_mem c l
    unfold Lib.indexByte
    by_cases h : b = c
    · subst h; simp
    · have h' : (b == c) = false := by simpa using h
      rw [h']
      by_cases e : Lib.indexByte l c = -1
      · simp only [Bool.false_eq_true, if_false, beq_iff_eq, e, if_true, List.mem_cons]
        refine ⟨by omega, by constructor; omega; rintro (rfl | hm); exact absurd rfl h; have := ih.2.2 hm; omega⟩
      · simp only [Bool.false_eq_true, if_false, beq_iff_eq, e, List.mem_cons]
        refine ⟨by omega, ?_⟩
        rw [← ih.2]
        constructor
        · intro _; right; omega
        · rintro (rfl | hm); exact absurd rfl h; omega
theorem index_wild (c : UInt8) : decide (0 ≤ Lib.indexByte [46, 95, 45, 42, 63] c) = (c == 46 || c == 95 || c == 45 || c == 42 || c == 63) := by
  rw [Bool.eq_iff_iff, decide_eq_true_eq, (indexByte_mem c _).2]; simp [or_assoc]

set_option maxHeartbeats 400000 in
theorem wild_calls (c : UInt8) (w : World) : Calls Tryd.prog 60 #[.int .u8 c.toNat] w fun e w' => e = .returned (.bool (Sp.wild c)) ∧ w = w' := by
  have hw : Sp.wild c = (Sp.low c || decide (0 ≤ Lib.indexByte [46, 95, 45, 42, 63] c)) := by
    rw [index_wild]; unfold Sp.wild Sp.sign; simp [Bool.or_assoc]
  have HW := Lib.hid hw
  clear hw
  have b := byte_lt c
  go_enter Tryd.func60, Tryd.ntmps60
  go_wp2_with (go_at_call 82; refine (Tryd.strings_IndexByte _ _ _).mono ?_; rintro e w' ⟨rfl, rfl⟩)
  all_goals
    go_ret
    exact ⟨ret_bool (by
      rw [HW.out, Bool.eq_iff_iff]
      simp only [Sp.low, Bool.or_eq_true, Bool.and_eq_true, decide_eq_true_eq, UInt8.le_iff_toNat_le]
      simp [*] <;> omega), rfl⟩

set_option maxHeartbeats 400000 in
theorem piece_calls (s : ByteArray) (w : World) (hsh : ∃ m, w.cell? ⟨0, 0, none⟩ = some (.int .i64 m)) (hs : s.size < 4294967281) : Calls Tryd.prog 27 #[.string s] w fun e w' => e = .returned (.bool (Sp.piece s.data.toList)) ∧ w = w' := by
  go_enter Tryd.func27, Tryd.ntmps27
  go_wp2
  go_loop [3, 6] (fun t i => ∃ k : Nat, k ≤ s.size ∧ i = .int .i64 k ∧ (s.data.toList.take k).all Sp.wild = true) (fun _ i => s.size - (intOf i).toNat)
  case atStart => exact ⟨0, Nat.zero_le _, rfl, rfl⟩
  case round =>
    obtain ⟨k, hk, rfl, hall⟩ := hrel
    by_cases hlt : k < s.size
    · have ht := Lib.hid (take_all s k hlt Sp.wild hall)
      go_wp2_with (go_at_call 60; refine (wild_calls _ _).mono ?_; rintro e w' ⟨rfl, rfl⟩)
      · have hn : (!Sp.wild s[k]) = true := by assumption
        go_ret
        exact ⟨ret_bool (by unfold Sp.piece; rw [all_no s k hlt Sp.wild (by simpa using hn)]; rfl), rfl⟩
      · have hn : (!Sp.wild s[k]) = false := by assumption
        go_round
        case rel => exact ⟨k + 1, by omega, by go_num, by rw [ht.out]; simpa using hn⟩
        case measure => simp [intOf]; omega
    · have hk' : k = s.size := by omega
      subst hk'
      rw [take_size] at hall
      have H := Lib.hid hall
      clear hall
      have hp : Sp.piece s.data.toList = (decide (s.toList ≠ []) && (decide (s.toList = [42, 42]) || !Lib.contains s.data.toList [42, 42])) := by
        rw [toList_data, Sp.contains_two]; unfold Sp.piece; rw [H.out]; rfl
      have HP := Lib.hid hp
      clear hp
      obtain ⟨m, hm⟩ := hsh
      go_wp2_with (go_at_call 61; refine (Tryd.strings_Contains _ _ _ _ hs hm).mono ?_; rintro e w' ⟨rfl, rfl⟩)
      all_goals
        go_ret
        exact ⟨ret_bool (by rw [HP.out, Bool.eq_iff_iff]; simp [*]), rfl⟩
end Go.Proofs.YtbjdgiocehoaiaaDoor
