/- Walks: names and paths, the program's and the reference's. -/
import Derived.Test.YtbjdgiocehoaiaaDoorGlobC
namespace Go.Proofs.YtbjdgiocehoaiaaDoor
open Go.RowKit

set_option maxHeartbeats 400000 in
theorem sign_calls (c : UInt8) (w : World) : Calls Tryd.prog 63 #[.int .u8 c.toNat] w fun e w' => e = .returned (.bool (Sp.sign c)) ∧ w = w' := by
  have b := byte_lt c
  go_enter Tryd.func63, Tryd.ntmps63
  go_wp2
  all_goals
    go_ret
    exact ⟨ret_bool (by
      rw [Bool.eq_iff_iff]
      simp only [Sp.sign, Sp.low, Bool.or_eq_true, Bool.and_eq_true, decide_eq_true_eq, beq_iff_eq, UInt8.le_iff_toNat_le, ← UInt8.toNat_inj]
      simp [*] <;> omega), rfl⟩

theorem name_no (s : ByteArray) (h : s.toList = [] ∨ 12 < s.size ∨ s.toList = [46] ∨ s.toList = [46, 46]) : Sp.name s.data.toList = false := by
  rw [toList_data] at h
  unfold Sp.name
  have e : s.data.toList.length = s.size := by simp
  rcases h with h | h | h | h
  · rw [h]; rfl
  · rw [e]; simp [show ¬ s.size ≤ 12 by omega]
  · rw [h]; rfl
  · rw [h]; rfl
theorem name_if (s : ByteArray) (h0 : ¬ s.toList = []) (h1 : ¬ 12 < s.size) (h2 : ¬ s.toList = [46]) (h3 : ¬ s.toList = [46, 46]) : Sp.name s.data.toList = s.data.toList.all Sp.sign := by
  rw [toList_data] at h0 h2 h3
  unfold Sp.name
  have e : s.data.toList.length = s.size := by simp
  rw [e]; simp only [ne_eq, h0, h2, h3, not_false_eq_true, decide_true, Bool.true_and, Bool.and_true, decide_eq_true (show s.size ≤ 12 by omega)]

set_option maxHeartbeats 1000000 in
theorem name_calls (s : ByteArray) (w : World) (hs : s.size < 4294967281) : Calls Tryd.prog 30 #[.string s] w fun e w' => e = .returned (.bool (Sp.name s.data.toList)) ∧ w = w' := by
  by_cases h0 : s.toList = []
  · have F := Lib.hid (name_no s (.inl h0))
    go_enter Tryd.func30, Tryd.ntmps30
    go_wp2
    go_ret
    exact ⟨ret_bool F.out.symm, rfl⟩
  by_cases h1 : 12 < s.size
  · have F := Lib.hid (name_no s (.inr (.inl h1)))
    have e0 : s.toList.isEmpty = false := by simpa using h0
    have e1 : decide ((12 : Int) < (s.size : Int)) = true := by simp; omega
    clear h1
    go_enter Tryd.func30, Tryd.ntmps30
    go_wp2
    go_ret
    exact ⟨ret_bool F.out.symm, rfl⟩
  have e0 : s.toList.isEmpty = false := by simpa using h0
  have e1 : decide ((12 : Int) < (s.size : Int)) = false := by simp; omega
  by_cases h2 : s.toList = [46]
  · have F := Lib.hid (name_no s (.inr (.inr (.inl h2))))
    clear h1 e0
    go_enter Tryd.func30, Tryd.ntmps30
    go_wp2
    go_ret
    exact ⟨ret_bool F.out.symm, rfl⟩
  have e2 : (s.toList == [46]) = false := by simpa using h2
  by_cases h3 : s.toList = [46, 46]
  · have F := Lib.hid (name_no s (.inr (.inr (.inr h3))))
    clear h1 e0 h2 e2
    go_enter Tryd.func30, Tryd.ntmps30
    go_wp2
    go_ret
    exact ⟨ret_bool F.out.symm, rfl⟩
  have e3 : (s.toList == [46, 46]) = false := by simpa using h3
  have F := Lib.hid (name_if s h0 h1 h2 h3)
  clear h0 h1 h2 h3
  go_enter Tryd.func30, Tryd.ntmps30
  go_wp2
  go_loop [3, 21] (fun t i => ∃ k : Nat, k ≤ s.size ∧ i = .int .i64 k ∧ (s.data.toList.take k).all Sp.sign = true) (fun _ i => s.size - (intOf i).toNat)
  case atStart => exact ⟨0, Nat.zero_le _, rfl, rfl⟩
  case round =>
    obtain ⟨k, hk, rfl, hall⟩ := hrel
    by_cases hlt : k < s.size
    · have ht := Lib.hid (take_all s k hlt Sp.sign hall)
      go_wp2_with (go_at_call 63; refine (sign_calls _ _).mono ?_; rintro e w' ⟨rfl, rfl⟩)
      · have hn : (!Sp.sign s[k]) = true := by assumption
        go_ret
        exact ⟨ret_bool (by rw [F.out, all_no s k hlt Sp.sign (by simpa using hn)]), rfl⟩
      · have hn : (!Sp.sign s[k]) = false := by assumption
        go_round
        case rel => exact ⟨k + 1, by omega, by go_num, by rw [ht.out]; simpa using hn⟩
        case measure => simp [intOf]; omega
    · obtain rfl : k = s.size := by omega
      rw [take_size] at hall
      have H := Lib.hid hall
      clear hall
      go_wp2
      go_ret
      exact ⟨ret_bool (by rw [F.out, H.out]), rfl⟩

theorem parts_calls.pure (s : ByteArray) (L : List ByteArray) (hL : L.map (·.data.toList) = Sp.split s.data.toList) (h51 : s.size ≤ 51) :
    (4 < L.length → Sp.parts s.data.toList = []) ∧ (∀ k, (h : k < L.length) → Sp.name L[k].data.toList = false → Sp.parts s.data.toList = []) ∧
    (L.length ≤ 4 → (∀ k, (h : k < L.length) → Sp.name L[k].data.toList = true) → Sp.parts s.data.toList = L.map (·.data.toList)) := by
  have hlen : (Sp.split s.data.toList).length = L.length := by rw [← hL, List.length_map]
  have hl : ¬ 51 < s.data.toList.length := by simp; omega
  refine ⟨fun h => ?_, fun k h hn => ?_, fun h4 h => ?_⟩
  · unfold Sp.parts; rw [if_neg hl, if_pos (by omega)]
  · unfold Sp.parts; rw [if_neg hl]
    split
    · rfl
    · rw [if_neg]
      rw [Bool.not_eq_true, List.all_eq_false, ← hL]
      exact ⟨_, List.mem_map.2 ⟨L[k], List.getElem_mem h, rfl⟩, by simp [hn]⟩
  · unfold Sp.parts; rw [if_neg hl, if_neg (by omega), if_pos, hL]
    rw [List.all_eq_true, ← hL]
    rintro x hx
    obtain ⟨y, hy, rfl⟩ := List.mem_map.1 hx
    obtain ⟨k, hk, rfl⟩ := List.getElem_of_mem hy
    exact h k hk
theorem split_sizes (s : ByteArray) (L : List ByteArray) (hL : L.map (·.data.toList) = Sp.split s.data.toList) : ∀ k, (h : k < L.length) → L[k].size ≤ s.size := by
  intro k h
  have : L[k].data.toList ∈ Sp.split s.data.toList := by rw [← hL]; exact List.mem_map.2 ⟨L[k], List.getElem_mem h, rfl⟩
  have := Sp.split_mem_le _ _ this; simpa using this
theorem max_kept {w w1 : World} {g : Nat} (h : ∃ m, w.cell? ⟨g, 0, none⟩ = some (.int .i64 m)) (hb : Below w.heap.size w w1) : ∃ m, w1.cell? ⟨g, 0, none⟩ = some (.int .i64 m) := by
  obtain ⟨m, hm⟩ := h
  exact ⟨m, by rw [hb.cell (p := ⟨g, 0, none⟩) (World.block_lt_of_cell? _ _ hm)]; exact hm⟩

/-- What a call that tells texts has told: nothing, or a new slice that reads as them. -/
def ToldStrs (w : World) (l : List Sp.Bs) (e : Ending) (w' : World) : Prop :=
  Below w.heap.size w w' ∧ ((l = [] ∧ e = .returned (.slice none 0 0)) ∨ ∃ (g cap : Nat) (L : List ByteArray), 0 < L.length ∧ L.length ≤ cap ∧ e = .returned (.slice (some ⟨g, 0, none⟩) L.length cap) ∧ L.map (·.data.toList) = l ∧ Strs w' g L ∧ w.heap.size ≤ g)

set_option maxHeartbeats 1000000 in
theorem parts_calls (s : ByteArray) (w : World) (hsh : ∃ m, w.cell? ⟨0, 0, none⟩ = some (.int .i64 m)) :
    Calls Tryd.prog 33 #[.string s] w (ToldStrs w (Sp.parts s.data.toList)) := by
  by_cases h51 : 51 < s.size
  · have F := Lib.hid (show Sp.parts s.data.toList = [] by unfold Sp.parts; rw [if_pos (by simpa using h51)])
    go_enter Tryd.func33, Tryd.ntmps33
    go_wp2
    go_ret
    exact ⟨Below.refl _ _, .inl ⟨F.out, rfl⟩⟩
  go_enter Tryd.func33, Tryd.ntmps33
  go_wp2_with fail
  refine (split_calls s _ hsh (by omega)).mono ?_
  rintro e w1 ⟨g, L, rfl, hL, hS, hb, hg, hn⟩
  obtain ⟨p1, p2, p3⟩ := parts_calls.pure s L hL (by omega)
  have hz := split_sizes s L hL
  have hl0 : 0 < L.length := by
    rw [← List.length_map (f := fun x : ByteArray => x.data.toList), hL]; exact List.length_pos_iff.2 (Sp.split_ne _)
  have P1 := Lib.hid p1
  have P2 := Lib.hid p2
  have P3 := Lib.hid p3
  have HS := Lib.hid hS
  have HZ := Lib.hid hz
  have HL := Lib.hid hL
  clear p1 p2 p3 hS hz hsh hL
  go_wp2
  · have h4 : (4 : Int) < (L.length : Int) := by assumption
    go_ret
    exact ⟨hb, .inl ⟨P1.out (by omega), rfl⟩⟩
  · have h4 : (L.length : Int) ≤ 4 := by assumption
    go_loop [5, 16] (fun _ i => ∃ k : Nat, k ≤ L.length ∧ i = .int .i64 k ∧ ∀ j, (h : j < L.length) → j < k → Sp.name L[j].data.toList = true) (fun _ i => L.length - (intOf i).toNat)
    case atStart => exact ⟨0, Nat.zero_le _, rfl, fun _ _ h => absurd h (by omega)⟩
    case round =>
      obtain ⟨k, hk, rfl, hall⟩ := hrel
      have HA := Lib.hid hall
      clear hall
      by_cases hlt : k < L.length
      · have hck := HS.out k hlt
        have hzk := HZ.out k hlt
        go_wp2_with (go_at_call 30; refine (name_calls _ _ (by omega)).mono ?_; rintro e w' ⟨rfl, rfl⟩)
        · have hq : (!Sp.name L[k].data.toList) = true := by assumption
          go_ret
          exact ⟨hb, .inl ⟨P2.out k hlt (by simpa using hq), rfl⟩⟩
        · have hq : (!Sp.name L[k].data.toList) = false := by assumption
          go_round
          case rel => exact ⟨k + 1, by omega, by go_num, fun j h hj => by
            by_cases e : j = k
            · subst e; simpa using hq
            · exact HA.out j h (by omega)⟩
          case measure => simp [intOf]; omega
      · go_wp2
        go_ret
        exact ⟨hb, .inr ⟨g, _, L, hl0, Nat.le_refl _, rfl, (P3.out (by omega) fun j h => HA.out j h (by omega)).symm, HS.out, hg⟩⟩
end Go.Proofs.YtbjdgiocehoaiaaDoor
