/- Walks: patterns are checked. -/
import Derived.Test.YtbjdgiocehoaiaaDoorGlobB
namespace Go.Proofs.YtbjdgiocehoaiaaDoor
open Go.RowKit

/-- A slice of texts at a block's head. -/
def Strs (w : World) (g : Nat) (L : List ByteArray) : Prop := ∀ k, (h : k < L.length) → w.cell? ⟨g, k, none⟩ = some (.string L[k])
theorem Strs.below {w w' : World} {g : Nat} {L : List ByteArray} (h : Strs w g L) (hb : Below w.heap.size w w') : Strs w' g L := fun k hk => by
  have := h k hk
  have hl : g < w.heap.size := World.block_lt_of_cell? _ _ this
  rw [hb.cell (p := ⟨g, k, none⟩) hl]; exact this

theorem split_calls (s : ByteArray) (w : World) (hsh : ∃ m, w.cell? ⟨0, 0, none⟩ = some (.int .i64 m)) (hs : s.size < 4294967281) :
    Calls Tryd.prog 26 #[.string s, .string ⟨#[47]⟩] w fun e w' => ∃ (g : Nat) (L : List ByteArray), e = .returned (.slice (some ⟨g, 0, none⟩) L.length L.length) ∧ L.map (·.data.toList) = Sp.split s.data.toList ∧ Strs w' g L ∧ Below w.heap.size w w' ∧ w.heap.size ≤ g ∧ L.length ≤ s.size + 1 := by
  obtain ⟨m, hm⟩ := hsh
  refine (Tryd.strings_Split s ⟨#[47]⟩ m w hs hm (by decide)).mono ?_
  rintro e w' ⟨rfl, rfl⟩
  have hl : (Lib.splitB ⟨#[47]⟩ 0 (Lib.countB s ⟨#[47]⟩) s).length = Lib.countB s ⟨#[47]⟩ + 1 := by rw [Sp.split_len, ← Sp.countB_split]
  refine ⟨w.heap.size, Lib.splitB ⟨#[47]⟩ 0 (Lib.countB s ⟨#[47]⟩) s, by rw [hl], Sp.split_lib s, ?_, (Below.refl _ _).alloc (Nat.le_refl _) _, Nat.le_refl _, ?_⟩
  · intro k hk
    rw [cell_of_row _ w.heap.size k _ 9 (0, 0) (heap_alloc_new w _)]
    simp [hk]
  · rw [hl]; have := Lib.countB_le ⟨#[47]⟩ (by decide) s.size s (Nat.le_refl _); omega

set_option maxHeartbeats 1000000 in
theorem gcheck_calls (s : ByteArray) (w : World) (hsh : ∃ m, w.cell? ⟨0, 0, none⟩ = some (.int .i64 m)) (hs : s.size < 4294967200) :
    Calls Tryd.prog 10 #[.string s] w fun e w' => e = .returned (.int .i64 (Sp.gcheck s.data.toList)) ∧ Below w.heap.size w w' := by
  go_enter Tryd.func10, Tryd.ntmps10
  go_wp2_with fail
  refine (split_calls s _ hsh (by omega)).mono ?_
  rintro e w1 ⟨g, L, rfl, hL, hS, hb, hg, hn⟩
  have hlen : (Sp.split s.data.toList).length = L.length := by rw [← hL, List.length_map]
  have g1 : 8 < L.length → Sp.gcheck s.data.toList = 2 := fun h => by unfold Sp.gcheck; rw [if_pos (by omega)]
  have g2 : ∀ k, (h : k < L.length) → 24 < L[k].size → L.length ≤ 8 → Sp.gcheck s.data.toList = 2 := fun k h hk h8 => by
    unfold Sp.gcheck; rw [if_neg (by omega), if_pos]
    rw [List.any_eq_true, ← hL]
    exact ⟨L[k].data.toList, List.mem_map.2 ⟨L[k], List.getElem_mem h, rfl⟩, by simpa using hk⟩
  have g3 : ∀ v, (∀ k, (h : k < L.length) → L[k].size ≤ 24) → L.length ≤ 8 → (Sp.split s.data.toList).all Sp.piece = v → Sp.gcheck s.data.toList = if v then 0 else 7 := fun v h h8 hv => by
    unfold Sp.gcheck; rw [if_neg (by omega), if_neg, hv]
    rw [Bool.not_eq_true, List.any_eq_false, ← hL]
    rintro x hx
    obtain ⟨y, hy, rfl⟩ := List.mem_map.1 hx
    obtain ⟨k, hk, rfl⟩ := List.getElem_of_mem hy
    have := h k hk; simpa using this
  have g4 : ∀ k, (h : k < L.length) → Sp.piece L[k].data.toList = false → (Sp.split s.data.toList).all Sp.piece = false := fun k h hp => by
    rw [List.all_eq_false, ← hL]; exact ⟨_, List.mem_map.2 ⟨L[k], List.getElem_mem h, rfl⟩, by simp [hp]⟩
  have g5 : (∀ k, (h : k < L.length) → Sp.piece L[k].data.toList = true) → (Sp.split s.data.toList).all Sp.piece = true := fun h => by
    rw [List.all_eq_true, ← hL]
    rintro x hx
    obtain ⟨y, hy, rfl⟩ := List.mem_map.1 hx
    obtain ⟨k, hk, rfl⟩ := List.getElem_of_mem hy
    exact h k hk
  have hsz : ∀ k, (h : k < L.length) → L[k].size ≤ s.size := by
    intro k h
    have : L[k].data.toList ∈ Sp.split s.data.toList := by rw [← hL]; exact List.mem_map.2 ⟨L[k], List.getElem_mem h, rfl⟩
    have := Sp.split_mem_le _ _ this; simpa using this
  have hsh1 : ∃ m, w1.cell? ⟨0, 0, none⟩ = some (.int .i64 m) := by
    obtain ⟨m, hm⟩ := hsh
    exact ⟨m, by rw [hb.cell (p := ⟨0, 0, none⟩) (World.block_lt_of_cell? _ _ hm)]; exact hm⟩
  have G1 := Lib.hid g1
  have G2 := Lib.hid g2
  have G3 := Lib.hid g3
  have G4 := Lib.hid g4
  have G5 := Lib.hid g5
  have HS := Lib.hid hS
  have HZ := Lib.hid hsz
  have HM := Lib.hid hsh1
  clear hL hlen g1 g2 g3 g4 g5 hS hsz hsh1 hsh hg
  go_wp2
  · have h8 : (8 : Int) < (L.length : Int) := by assumption
    go_ret
    exact ⟨ret_int (G1.out (by omega)).symm, hb⟩
  · have h8 : (L.length : Int) ≤ 8 := by assumption
    go_loop [5, 15] (fun _ i => ∃ k : Nat, k ≤ L.length ∧ i = .int .i64 k ∧ ∀ j, (h : j < L.length) → j < k → L[j].size ≤ 24) (fun _ i => L.length - (intOf i).toNat)
    case atStart => exact ⟨0, Nat.zero_le _, rfl, fun _ _ h => absurd h (by omega)⟩
    case round =>
      obtain ⟨k, hk, rfl, hall⟩ := hrel
      have HA := Lib.hid hall
      clear hall
      by_cases hlt : k < L.length
      · have hck := HS.out k hlt
        go_wp2
        · have h24 : (24 : Int) < (L[k].size : Int) := by assumption
          go_ret
          exact ⟨ret_int (G2.out k hlt (by omega) (by omega)).symm, hb⟩
        · have h24 : (L[k].size : Int) ≤ 24 := by assumption
          go_round
          case rel => exact ⟨k + 1, by omega, by go_num, fun j h hj => by
            by_cases e : j = k
            · subst e; omega
            · exact HA.out j h (by omega)⟩
          case measure => simp [intOf]; omega
      · go_wp2
        go_loop [7, 25] (fun _ i => ∃ k : Nat, k ≤ L.length ∧ i = .int .i64 k ∧ ∀ j, (h : j < L.length) → j < k → Sp.piece L[j].data.toList = true) (fun _ i => L.length - (intOf i).toNat)
        case atStart => exact ⟨0, Nat.zero_le _, rfl, fun _ _ h => absurd h (by omega)⟩
        case round =>
          obtain ⟨q, hq, rfl, hall⟩ := hrel
          have HB := Lib.hid hall
          clear hall
          by_cases hlq : q < L.length
          · have hcq := HS.out q hlq
            have hsz := HZ.out q hlq
            go_wp2_with (go_at_call 27; refine (piece_calls _ _ HM.out (by omega)).mono ?_; rintro e w' ⟨rfl, rfl⟩)
            · have hn : (!Sp.piece L[q].data.toList) = true := by assumption
              go_ret
              exact ⟨ret_int (G3.out false (fun j h => HA.out j h (by omega)) (by omega) (G4.out q hlq (by simpa using hn))).symm, hb⟩
            · have hn : (!Sp.piece L[q].data.toList) = false := by assumption
              go_round
              case rel => exact ⟨q + 1, by omega, by go_num, fun j h hj => by
                by_cases e : j = q
                · subst e; simpa using hn
                · exact HB.out j h (by omega)⟩
              case measure => simp [intOf]; omega
          · go_wp2
            go_ret
            exact ⟨ret_int (G3.out true (fun j h => HA.out j h (by omega)) (by omega) (G5.out fun j h => HB.out j h (by omega))).symm, hb⟩

end Go.Proofs.YtbjdgiocehoaiaaDoor
