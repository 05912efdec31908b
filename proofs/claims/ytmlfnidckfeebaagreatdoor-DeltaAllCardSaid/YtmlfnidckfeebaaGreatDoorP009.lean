/- Walks: patterns are checked. Walks: names and paths, the program's and the reference's. Walks: names and paths, the reference's. Walks: kids. -/
import Derived.IntWalk
import Derived.BigRegion
import Derived.Test.YtmlfnidckfeebaaGreatDoorP008
namespace Go.Proofs.YtmlfnidckfeebaaGreatDoor
open Go.RowKit

/-- A slice of texts at a block's head. -/
def Strs (w : World) (g : Nat) (L : List ByteArray) : Prop := ∀ k, (h : k < L.length) → w.cell? ⟨g, k, none⟩ = some (.string L[k])
theorem Strs.below {w w' : World} {g : Nat} {L : List ByteArray} (h : Strs w g L) (hb : Below w.heap.size w w') : Strs w' g L := fun k hk => by
  have := h k hk
  have hl : g < w.heap.size := World.block_lt_of_cell? _ _ this
  rw [hb.cell (p := ⟨g, k, none⟩) hl]; exact this

theorem split_calls (s : ByteArray) (w : World) (hsh : ∃ m, w.cell? ⟨1, 0, none⟩ = some (.int .i64 m)) (hs : s.size < 4294967281) :
    Calls Tryz.prog 179 #[.string s, .string ⟨#[47]⟩] w fun e w' => ∃ (g : Nat) (L : List ByteArray), e = .returned (.slice (some ⟨g, 0, none⟩) L.length L.length) ∧ L.map (·.data.toList) = Sp.split s.data.toList ∧ Strs w' g L ∧ Below w.heap.size w w' ∧ w.heap.size ≤ g ∧ L.length ≤ s.size + 1 := by
  obtain ⟨m, hm⟩ := hsh
  refine (Tryz.strings_Split s ⟨#[47]⟩ m w hs hm (by decide)).mono ?_
  rintro e w' ⟨rfl, rfl⟩
  have hl : (Lib.splitB ⟨#[47]⟩ 0 (Lib.countB s ⟨#[47]⟩) s).length = Lib.countB s ⟨#[47]⟩ + 1 := by rw [Sp.split_len, ← Sp.countB_split]
  refine ⟨w.heap.size, Lib.splitB ⟨#[47]⟩ 0 (Lib.countB s ⟨#[47]⟩) s, by rw [hl], Sp.split_lib s, ?_, (Below.refl _ _).alloc (Nat.le_refl _) _, Nat.le_refl _, ?_⟩
  · intro k hk
    rw [cell_of_row _ w.heap.size k _ 9 (0, 0) (heap_alloc_new w _)]
    simp [hk]
  · rw [hl]; have := Lib.countB_le ⟨#[47]⟩ (by decide) s.size s (Nat.le_refl _); omega

end Go.Proofs.YtmlfnidckfeebaaGreatDoor
namespace Go.Proofs.YtmlfnidckfeebaaGreatDoor
open Go.RowKit

set_option maxHeartbeats 400000 in
theorem sign_calls (c : UInt8) (w : World) : Calls Tryz.prog 242 #[.int .u8 c.toNat] w fun e w' => e = .returned (.bool (Sp.sign c)) ∧ w = w' := by
  have b := byte_lt c
  go_enter Tryz.func242, Tryz.ntmps242
  go_wp2
  all_goals
    go_ret
    exact ⟨ret_bool (by
      rw [Bool.eq_iff_iff]
      simp only [Sp.sign, Sp.low, Bool.or_eq_true, Bool.and_eq_true, decide_eq_true_eq, beq_iff_eq, UInt8.le_iff_toNat_le, ← UInt8.toNat_inj]
      simp [*] <;> omega), rfl⟩

theorem name_no (s : ByteArray) (h : s.toList = [] ∨ 12 < s.size ∨ s.toList = [46] ∨ s.toList = [46, 46]) : Sp.name s.data.toList = false := by
  rw [toList_data] at h
  unfold Sp.name
  have e : s.data.toList.length = s.size := by simp
  rcases h with h | h | h | h
  · rw [h]; rfl
  · rw [e]; simp [show ¬ s.size ≤ 12 by omega]
  · rw [h]; rfl
  · rw [h]; rfl
theorem name_if (s : ByteArray) (h0 : ¬ s.toList = []) (h1 : ¬ 12 < s.size) (h2 : ¬ s.toList = [46]) (h3 : ¬ s.toList = [46, 46]) : Sp.name s.data.toList = s.data.toList.all Sp.sign := by
  rw [toList_data] at h0 h2 h3
  unfold Sp.name
  have e : s.data.toList.length = s.size := by simp
  rw [e]; simp only [ne_eq, h0, h2, h3, not_false_eq_true, decide_true, Bool.true_and, Bool.and_true, decide_eq_true (show s.size ≤ 12 by omega)]

set_option maxHeartbeats 1000000 in
theorem name_calls (s : ByteArray) (w : World) (hs : s.size < 4294967281) : Calls Tryz.prog 180 #[.string s] w fun e w' => e = .returned (.bool (Sp.name s.data.toList)) ∧ w = w' := by
  by_cases h0 : s.toList = []
  · have F := Lib.hid (name_no s (.inl h0))
    go_enter Tryz.func180, Tryz.ntmps180
    go_wp2
    go_ret
    exact ⟨ret_bool F.out.symm, rfl⟩
  by_cases h1 : 12 < s.size
  · have F := Lib.hid (name_no s (.inr (.inl h1)))
    have e0 : s.toList.isEmpty = false := by simpa using h0
    have e1 : decide ((12 : Int) < (s.size : Int)) = true := by simp; omega
    clear h1
    go_enter Tryz.func180, Tryz.ntmps180
    go_wp2
    go_ret
    exact ⟨ret_bool F.out.symm, rfl⟩
  have e0 : s.toList.isEmpty = false := by simpa using h0
  have e1 : decide ((12 : Int) < (s.size : Int)) = false := by simp; omega
  by_cases h2 : s.toList = [46]
  · have F := Lib.hid (name_no s (.inr (.inr (.inl h2))))
    clear h1 e0
    go_enter Tryz.func180, Tryz.ntmps180
    go_wp2
    go_ret
    exact ⟨ret_bool F.out.symm, rfl⟩
  have e2 : (s.toList == [46]) = false := by simpa using h2
  by_cases h3 : s.toList = [46, 46]
  · have F := Lib.hid (name_no s (.inr (.inr (.inr h3))))
    clear h1 e0 h2 e2
    go_enter Tryz.func180, Tryz.ntmps180
    go_wp2
    go_ret
    exact ⟨ret_bool F.out.symm, rfl⟩
  have e3 : (s.toList == [46, 46]) = false := by simpa using h3
  have F := Lib.hid (name_if s h0 h1 h2 h3)
  clear h0 h1 h2 h3
  go_enter Tryz.func180, Tryz.ntmps180
  go_wp2
  go_loop [3, 21] (fun t i => ∃ k : Nat, k ≤ s.size ∧ i = .int .i64 k ∧ (s.data.toList.take k).all Sp.sign = true) (fun _ i => s.size - (intOf i).toNat)
  case atStart => exact ⟨0, Nat.zero_le _, rfl, rfl⟩
  case round =>
    obtain ⟨k, hk, rfl, hall⟩ := hrel
    by_cases hlt : k < s.size
    · have ht := Lib.hid (take_all s k hlt Sp.sign hall)
      go_wp2_with (go_at_call 242; refine (sign_calls _ _).mono ?_; rintro e w' ⟨rfl, rfl⟩)
      · have hn : (!Sp.sign s[k]) = true := by assumption
        go_ret
        exact ⟨ret_bool (by rw [F.out, all_no s k hlt Sp.sign (by simpa using hn)]), rfl⟩
      · have hn : (!Sp.sign s[k]) = false := by assumption
        go_round
        case rel => exact ⟨k + 1, by omega, by go_num, by rw [ht.out]; simpa using hn⟩
        case measure => simp [intOf]; omega
    · obtain rfl : k = s.size := by omega
      rw [take_size] at hall
      have H := Lib.hid hall
      clear hall
      go_wp2
      go_ret
      exact ⟨ret_bool (by rw [F.out, H.out]), rfl⟩

theorem parts_calls.pure (s : ByteArray) (L : List ByteArray) (hL : L.map (·.data.toList) = Sp.split s.data.toList) (h51 : s.size ≤ 51) :
    (4 < L.length → Sp.parts s.data.toList = []) ∧ (∀ k, (h : k < L.length) → Sp.name L[k].data.toList = false → Sp.parts s.data.toList = []) ∧
    (L.length ≤ 4 → (∀ k, (h : k < L.length) → Sp.name L[k].data.toList = true) → Sp.parts s.data.toList = L.map (·.data.toList)) := by
  have hlen : (Sp.split s.data.toList).length = L.length := by rw [← hL, List.length_map]
  have hl : ¬ 51 < s.data.toList.length := by simp; omega
  refine ⟨fun h => ?_, fun k h hn => ?_, fun h4 h => ?_⟩
  · unfold Sp.parts; rw [if_neg hl, if_pos (by omega)]
  · unfold Sp.parts; rw [if_neg hl]
    split
    · rfl
    · rw [if_neg]
      rw [Bool.not_eq_true, List.all_eq_false, ← hL]
      exact ⟨_, List.mem_map.2 ⟨L[k], List.getElem_mem h, rfl⟩, by simp [hn]⟩
  · unfold Sp.parts; rw [if_neg hl, if_neg (by omega), if_pos, hL]
    rw [List.all_eq_true, ← hL]
    rintro x hx
    obtain ⟨y, hy, rfl⟩ := List.mem_map.1 hx
    obtain ⟨k, hk, rfl⟩ := List.getElem_of_mem hy
    exact h k hk
theorem split_sizes (s : ByteArray) (L : List ByteArray) (hL : L.map (·.data.toList) = Sp.split s.data.toList) : ∀ k, (h : k < L.length) → L[k].size ≤ s.size := by
  intro k h
  have : L[k].data.toList ∈ Sp.split s.data.toList := by rw [← hL]; exact List.mem_map.2 ⟨L[k], List.getElem_mem h, rfl⟩
  have := Sp.split_mem_le _ _ this; simpa using this
theorem max_kept {w w1 : World} {g : Nat} (h : ∃ m, w.cell? ⟨g, 0, none⟩ = some (.int .i64 m)) (hb : Below w.heap.size w w1) : ∃ m, w1.cell? ⟨g, 0, none⟩ = some (.int .i64 m) := by
  obtain ⟨m, hm⟩ := h
  exact ⟨m, by rw [hb.cell (p := ⟨g, 0, none⟩) (World.block_lt_of_cell? _ _ hm)]; exact hm⟩

/-- What a call that tells texts has told: nothing, or a new slice that reads as them. -/
def ToldStrs (w : World) (l : List Sp.Bs) (e : Ending) (w' : World) : Prop :=
  Below w.heap.size w w' ∧ ((l = [] ∧ e = .returned (.slice none 0 0)) ∨ ∃ (g cap : Nat) (L : List ByteArray), 0 < L.length ∧ L.length ≤ cap ∧ e = .returned (.slice (some ⟨g, 0, none⟩) L.length cap) ∧ L.map (·.data.toList) = l ∧ Strs w' g L ∧ w.heap.size ≤ g)

set_option maxHeartbeats 1000000 in
theorem parts_calls (s : ByteArray) (w : World) (hsh : ∃ m, w.cell? ⟨1, 0, none⟩ = some (.int .i64 m)) :
    Calls Tryz.prog 112 #[.string s] w (ToldStrs w (Sp.parts s.data.toList)) := by
  by_cases h51 : 51 < s.size
  · have F := Lib.hid (show Sp.parts s.data.toList = [] by unfold Sp.parts; rw [if_pos (by simpa using h51)])
    go_enter Tryz.func112, Tryz.ntmps112
    go_wp2
    go_ret
    exact ⟨Below.refl _ _, .inl ⟨F.out, rfl⟩⟩
  go_enter Tryz.func112, Tryz.ntmps112
  go_wp2_with fail
  refine (split_calls s _ hsh (by omega)).mono ?_
  rintro e w1 ⟨g, L, rfl, hL, hS, hb, hg, hn⟩
  obtain ⟨p1, p2, p3⟩ := parts_calls.pure s L hL (by omega)
  have hz := split_sizes s L hL
  have hl0 : 0 < L.length := by
    rw [← List.length_map (f := fun x : ByteArray => x.data.toList), hL]; exact List.length_pos_iff.2 (Sp.split_ne _)
  have P1 := Lib.hid p1
  have P2 := Lib.hid p2
  have P3 := Lib.hid p3
  have HS := Lib.hid hS
  have HZ := Lib.hid hz
  have HL := Lib.hid hL
  clear p1 p2 p3 hS hz hsh hL
  go_wp2
  · have h4 : (4 : Int) < (L.length : Int) := by assumption
    go_ret
    exact ⟨hb, .inl ⟨P1.out (by omega), rfl⟩⟩
  · have h4 : (L.length : Int) ≤ 4 := by assumption
    go_loop [5, 16] (fun _ i => ∃ k : Nat, k ≤ L.length ∧ i = .int .i64 k ∧ ∀ j, (h : j < L.length) → j < k → Sp.name L[j].data.toList = true) (fun _ i => L.length - (intOf i).toNat)
    case atStart => exact ⟨0, Nat.zero_le _, rfl, fun _ _ h => absurd h (by omega)⟩
    case round =>
      obtain ⟨k, hk, rfl, hall⟩ := hrel
      have HA := Lib.hid hall
      clear hall
      by_cases hlt : k < L.length
      · have hck := HS.out k hlt
        have hzk := HZ.out k hlt
        go_wp2_with (go_at_call 180; refine (name_calls _ _ (by omega)).mono ?_; rintro e w' ⟨rfl, rfl⟩)
        · have hq : (!Sp.name L[k].data.toList) = true := by assumption
          go_ret
          exact ⟨hb, .inl ⟨P2.out k hlt (by simpa using hq), rfl⟩⟩
        · have hq : (!Sp.name L[k].data.toList) = false := by assumption
          go_round
          case rel => exact ⟨k + 1, by omega, by go_num, fun j h hj => by
            by_cases e : j = k
            · subst e; simpa using hq
            · exact HA.out j h (by omega)⟩
          case measure => simp [intOf]; omega
      · go_wp2
        go_ret
        exact ⟨hb, .inr ⟨g, _, L, hl0, Nat.le_refl _, rfl, (P3.out (by omega) fun j h => HA.out j h (by omega)).symm, HS.out, hg⟩⟩
end Go.Proofs.YtmlfnidckfeebaaGreatDoor
namespace Go.Proofs.YtmlfnidckfeebaaGreatDoor
open Go.RowKit

theorem sign_iff (c : UInt8) : Sp.sign c = true ↔ (97 ≤ (c.toNat : Int) ∧ (c.toNat : Int) ≤ 122 ∨ 48 ≤ (c.toNat : Int) ∧ (c.toNat : Int) ≤ 57 ∨ (c.toNat : Int) = 46 ∨ (c.toNat : Int) = 95 ∨ (c.toNat : Int) = 45) := by
  simp only [Sp.sign, Sp.low, Bool.or_eq_true, Bool.and_eq_true, decide_eq_true_eq, beq_iff_eq, UInt8.le_iff_toNat_le, ← UInt8.toNat_inj]
  simp; omega

theorem sign_cases (c : UInt8) : (Sp.sign c = true ∧ 97 ≤ (c.toNat : Int) ∧ (c.toNat : Int) ≤ 122) ∨ (Sp.sign c = true ∧ 48 ≤ (c.toNat : Int) ∧ (c.toNat : Int) ≤ 57) ∨ (Sp.sign c = true ∧ (c.toNat : Int) = 46) ∨ (Sp.sign c = true ∧ (c.toNat : Int) = 95) ∨ (Sp.sign c = true ∧ (c.toNat : Int) = 45) ∨
    (Sp.sign c = false ∧ (decide ((c.toNat : Int) < 97) || decide ((122 : Int) < c.toNat)) = true ∧ (decide ((c.toNat : Int) < 48) || decide ((57 : Int) < c.toNat)) = true ∧ ((c.toNat : Int) != 46) = true ∧ ((c.toNat : Int) != 95) = true ∧ ((c.toNat : Int) != 45) = true) := by
  have h := sign_iff c
  cases e : Sp.sign c with
  | true => have := h.1 e; simp only [true_and, Bool.true_eq_false, false_and, or_false]; omega
  | false =>
    have := mt h.2 (by rw [e]; simp)
    simp only [true_and, Bool.false_eq_true, false_and, false_or, Bool.or_eq_true, decide_eq_true_eq, bne_iff_ne]; omega

set_option maxHeartbeats 1000000 in
theorem rname_calls (s : ByteArray) (w : World) (hs : s.size < 4294967281) : Calls Tryz.prog 118 #[.string s] w fun e w' => e = .returned (.bool (Sp.name s.data.toList)) ∧ w = w' := by
  by_cases h0 : s.toList = []
  · have F := Lib.hid (name_no s (.inl h0))
    have hz : s.size = 0 := by rw [toList_data] at h0; have := congrArg List.length h0; simpa using this
    have e1 : decide ((s.size : Int) < 1) = true := by simp; omega
    clear h0
    go_enter Tryz.func118, Tryz.ntmps118
    go_wp2
    go_ret
    exact ⟨ret_bool F.out.symm, rfl⟩
  have hz : 1 ≤ s.size := by rw [toList_data] at h0; have := List.length_pos_iff.2 h0; simp at this; omega
  have e0 : decide ((s.size : Int) < 1) = false := by simp; omega
  by_cases h1 : 12 < s.size
  · have F := Lib.hid (name_no s (.inr (.inl h1)))
    have e1 : decide ((12 : Int) < (s.size : Int)) = true := by simp; omega
    clear h1
    go_enter Tryz.func118, Tryz.ntmps118
    go_wp2
    go_ret
    exact ⟨ret_bool F.out.symm, rfl⟩
  have e1 : decide ((12 : Int) < (s.size : Int)) = false := by simp; omega
  by_cases h2 : s.toList = [46]
  · have F := Lib.hid (name_no s (.inr (.inr (.inl h2))))
    clear h1
    go_enter Tryz.func118, Tryz.ntmps118
    go_wp2
    go_ret
    exact ⟨ret_bool F.out.symm, rfl⟩
  have e2 : (s.toList == [46]) = false := by simpa using h2
  by_cases h3 : s.toList = [46, 46]
  · have F := Lib.hid (name_no s (.inr (.inr (.inr h3))))
    clear h1 h2 e2
    go_enter Tryz.func118, Tryz.ntmps118
    go_wp2
    go_ret
    exact ⟨ret_bool F.out.symm, rfl⟩
  have e3 : (s.toList == [46, 46]) = false := by simpa using h3
  have F := Lib.hid (name_if s h0 h1 h2 h3)
  clear h0 h1 h2 h3
  go_enter Tryz.func118, Tryz.ntmps118
  go_wp2
  go_loop [3, 4] (fun i t => ∃ k : Nat, k ≤ s.size ∧ i = .int .i64 k ∧ (s.data.toList.take k).all Sp.sign = true) (fun i _ => s.size - (intOf i).toNat)
  case atStart => exact ⟨0, Nat.zero_le _, rfl, rfl⟩
  case round =>
    obtain ⟨k, hk, rfl, hall⟩ := hrel
    by_cases hlt : k < s.size
    · have ht := Lib.hid (take_all s k hlt Sp.sign hall)
      have b := byte_lt s[k]
      rcases sign_cases s[k] with ⟨g, c1, c2⟩ | ⟨g, c1, c2⟩ | ⟨g, c1⟩ | ⟨g, c1⟩ | ⟨g, c1⟩ | ⟨g, c1, c2, c3, c4, c5⟩
      · have G := Lib.hid g
        clear g
        go_wp2
        go_round
        case rel => exact ⟨k + 1, by omega, by go_num, by rw [ht.out]; exact G.out⟩
        case measure => simp [intOf]; omega
      · have G := Lib.hid g
        clear g
        go_wp2
        go_round
        case rel => exact ⟨k + 1, by omega, by go_num, by rw [ht.out]; exact G.out⟩
        case measure => simp [intOf]; omega
      · have G := Lib.hid g
        clear g
        go_wp2
        go_round
        case rel => exact ⟨k + 1, by omega, by go_num, by rw [ht.out]; exact G.out⟩
        case measure => simp [intOf]; omega
      · have G := Lib.hid g
        clear g
        go_wp2
        go_round
        case rel => exact ⟨k + 1, by omega, by go_num, by rw [ht.out]; exact G.out⟩
        case measure => simp [intOf]; omega
      · have G := Lib.hid g
        clear g
        go_wp2
        go_round
        case rel => exact ⟨k + 1, by omega, by go_num, by rw [ht.out]; exact G.out⟩
        case measure => simp [intOf]; omega
      · have G := Lib.hid g
        clear g
        go_wp2
        all_goals
          go_ret
          exact ⟨ret_bool (by rw [F.out, all_no s k hlt Sp.sign G.out]), rfl⟩
    · obtain rfl : k = s.size := by omega
      rw [take_size] at hall
      have H := Lib.hid hall
      clear hall
      go_wp2
      go_ret
      exact ⟨ret_bool (by rw [F.out, H.out]), rfl⟩

theorem split_cons_ne {d : UInt8} {r h : Sp.Bs} {t : List Sp.Bs} (hd : ¬ d = 47) (e : Sp.split r = h :: t) : Sp.split (d :: r) = (d :: h) :: t := by
  rw [Sp.split, if_neg hd, e]
theorem split_snoc (l : Sp.Bs) (c : UInt8) : Sp.split (l ++ [c]) = if c = 47 then Sp.split l ++ [[]] else (Sp.split l).dropLast ++ [(Sp.split l).getLast (Sp.split_ne l) ++ [c]] := by
  induction l with
  | nil => simp only [List.nil_append, Sp.split]; split <;> rfl
  | cons d r ih =>
    rw [List.cons_append]
    by_cases hd : d = 47
    · have e : Sp.split (d :: r) = [] :: Sp.split r := by rw [Sp.split, if_pos hd]
      rw [Sp.split, if_pos hd, ih]
      simp only [e]
      split
      · rfl
      · rw [List.dropLast_cons_of_ne_nil (Sp.split_ne r), List.getLast_cons (Sp.split_ne r)]; rfl
    · obtain ⟨h, t, e1⟩ : ∃ h t, Sp.split r = h :: t := by
        cases e : Sp.split r with
        | nil => exact absurd e (Sp.split_ne r)
        | cons h t => exact ⟨h, t, rfl⟩
      simp only [split_cons_ne hd e1]
      simp only [e1] at ih
      by_cases hc : c = 47
      · rw [if_pos hc] at ih ⊢
        exact split_cons_ne hd ih
      · rw [if_neg hc] at ih ⊢
        cases t with
        | nil => exact split_cons_ne hd ih
        | cons x t =>
          have ih' : Sp.split (r ++ [c]) = h :: ((x :: t).dropLast ++ [(x :: t).getLast (by simp) ++ [c]]) := by rw [ih]; simp
          rw [split_cons_ne hd ih']; simp

theorem extract_one (s : ByteArray) (k : Nat) (h : k < s.size) : (s.extract k (k + 1)).data.toList = [s[k]] := by
  have h' : k < s.data.toList.length := by simpa using h
  have e : s[k] = s.data.toList[k] := rfl
  rw [Lib.extract_data, e]
  simp only [Nat.add_sub_cancel_left]
  rw [List.drop_eq_getElem_cons h']; rfl

theorem app27 : AppStat Tryz.prog 32 9 1 16 := by
  refine ⟨Tryz.underlying32, by decide, by decide, ?_⟩
  obtain ⟨i0, hi, hz0, hz1, hz2⟩ := info_parts (show (Tryz.prog.info? 9).map (fun i => (i.zero, i.size, i.bytes)) = some (some (.string ⟨#[]⟩), 1, 16) by kernel_rfl)
  exact ⟨i0, _, hi, hz0, hz1, hz2, rfl⟩

set_option maxHeartbeats 1000000 in
theorem pieces_calls (s : ByteArray) (w : World) (hs : s.size < 4294967200) :
    Calls Tryz.prog 87 #[.string s] w (ToldStrs w (Sp.split s.data.toList)) := by
  go_enter Tryz.func87, Tryz.ntmps87
  go_wp2
  go_loopw [3, 4] (fun v i wr => ∃ (k g cap : Nat) (M : List ByteArray) (x : ByteArray), k ≤ s.size ∧ i = .int .i64 k ∧ v = .slice (some ⟨g, 0, none⟩) (M.length + 1) cap ∧ w.heap.size ≤ g ∧ M.length ≤ k ∧ x.size ≤ k ∧ (M ++ [x]).map (·.data.toList) = Sp.split (s.data.toList.take k) ∧ wr.ownsRow w.heap.size 9 1 (.slice (some ⟨g, 0, none⟩) (M.length + 1) cap) (M.length + 1) ((M ++ [x]).map Value.string) ∧ Below w.heap.size w wr) (fun _ i _ => s.size - (intOf i).toNat)
  case atStart =>
    refine ⟨0, w.heap.size, 1, [], ByteArray.empty, Nat.zero_le _, rfl, rfl, Nat.le_refl _, Nat.le_refl _, by simp, by simp [Sp.split], ?_, (Below.refl _ _).alloc (Nat.le_refl _) _⟩
    exact World.ownsRow_lit w #[.string ⟨#[]⟩] 1 (Nat.le_refl _) (by decide) rfl
  case round =>
    obtain ⟨k, g, cap, M, x, hk, rfl, rfl, hg, hM, hx, hsp, hown, hb⟩ := hrel
    by_cases hlt : k < s.size
    · have hsn := split_snoc (s.data.toList.take k) s[k]
      rw [← take_snoc s k hlt] at hsn
      by_cases hc : s[k] = 47
      · have hb1 : (((s[k]).toNat : Int) == 47) = true := by rw [hc]; rfl
        rw [if_pos hc, ← hsp] at hsn
        have HN := Lib.hid hsn
        have HP := Lib.hid hsp
        clear hsn hsp hc
        go_wp2_with (at_builtin; refine app_new app27 rfl _ _ rfl w.heap.size _ (M.length + 1) _ rfl hown #[.string ⟨#[]⟩] _ 1 rfl rfl ?c1 (by decide) ?c2 ?c3 ?_; (case c1 => (intro u hu; simp at hu; subst hu; rfl)); (case c2 => omega); (case c3 => exact hb.size); intro g' cap' w' hown' _ hb' hg')
        go_roundw
        case rel =>
          refine ⟨k + 1, g', cap', M ++ [x], ⟨#[]⟩, by omega, by go_num, ?_, hg', by simp; omega, Nat.zero_le _, ?_, ?_, hb.trans hb'⟩
          · simp
          · rw [HN.out]; simp
          · simpa using hown'
        case measure => simp [intOf]; omega
      · have hb1 : (((s[k]).toNat : Int) == 47) = false := by
          rw [beq_eq_false_iff_ne]; intro e; exact hc (UInt8.toNat_inj.1 (by simpa using (by omega : (s[k]).toNat = 47)))
        have hsn' : Sp.split (s.data.toList.take (k + 1)) = M.map (·.data.toList) ++ [x.data.toList ++ [s[k]]] := by
          rw [hsn, if_neg hc]; simp [← hsp]
        have HN := Lib.hid hsn'
        have HP := Lib.hid hsp
        have hcell : wr.cell? ⟨g, M.length, none⟩ = some (.string x) := by rw [hown.cellAt M.length (by omega)]; simp
        have hfr := hown.frozenAt M.length
        have q1 : IntKind.i64.wrap (M.length : Int) = (M.length : Int) := IntWalk.i64_in _ (by omega)
        have q2 : IntKind.i64.wrap ((k : Int) + 1) = (k : Int) + 1 := IntWalk.i64_in _ (by omega)
        have q3 : ∀ W, (Instr.slice 9 (.string s) (some (.int .i64 (k : Int))) (some (.int .i64 ((k : Int) + 1))) none).run Tryz.prog W = .ok (.string (s.extract k (k + 1))) W := fun W => by
          rw [run_slice_string W _ s .i64 .i64 (k : Int) ((k : Int) + 1) Tryz.underlying9 (by omega) (by omega) (by omega)]; rfl
        clear hsn' hsn hsp hc
        go_wp2_with fail
        go_region
        go_wp2
        have hown1 := (hown.stored M.length (.string (x ++ s.extract k (k + 1)))).1
        have hl : (List.map Value.string (M ++ [x])).set M.length (.string (x ++ s.extract k (k + 1))) = List.map Value.string (M ++ [x ++ s.extract k (k + 1)]) := by simp
        rw [hl] at hown1
        go_roundw
        case rel =>
          refine ⟨k + 1, g, cap, M, x ++ s.extract k (k + 1), by omega, by go_num, rfl, hg, by omega, by simp; omega, ?_, hown1, ?_⟩
          · rw [HN.out, ← extract_one s k hlt]; simp
          · exact (hb.drew).setCell (by exact hg) _
        case measure => simp [intOf]; omega
    · obtain rfl : k = s.size := by omega
      rw [take_size] at hsp
      have HP := Lib.hid hsp
      clear hsp
      go_wp2
      go_ret
      have hcap : M.length + 1 ≤ cap := by
        rcases hown.2 with ⟨h, _⟩ | ⟨_, _, _, h, _, _, hc, _⟩
        · cases h
        · cases h; exact hc
      refine ⟨hb, .inr ⟨g, cap, M ++ [x], by simp, by simpa using hcap, by simp, HP.out, ?_, hg⟩⟩
      intro j hj
      rw [hown.cellAt j (by simpa using hj), List.getElem?_map, List.getElem?_eq_getElem hj]; rfl

theorem check_pure (s : ByteArray) (L : List ByteArray) (hL : L.map (·.data.toList) = Sp.split s.data.toList) (h51 : s.size ≤ 51) :
    (4 < L.length → Sp.check s.data.toList = 1) ∧ (∀ k, (h : k < L.length) → Sp.name L[k].data.toList = false → Sp.check s.data.toList = 1) ∧
    (L.length ≤ 4 → (∀ k, (h : k < L.length) → Sp.name L[k].data.toList = true) → Sp.check s.data.toList = 0) := by
  obtain ⟨p1, p2, p3⟩ := parts_calls.pure s L hL h51
  have hl : ¬ 51 < s.data.toList.length := by simp; omega
  have hl0 : 0 < L.length := by
    rw [← List.length_map (f := fun x : ByteArray => x.data.toList), hL]; exact List.length_pos_iff.2 (Sp.split_ne _)
  refine ⟨fun h => ?_, fun k h hn => ?_, fun h4 h => ?_⟩
  · unfold Sp.check; rw [if_neg hl, p1 h]; rfl
  · unfold Sp.check; rw [if_neg hl, p2 k h hn]; rfl
  · unfold Sp.check; rw [if_neg hl, p3 h4 h, if_neg (by simp; exact fun e => by rw [e] at hl0; simp at hl0)]

set_option maxHeartbeats 1000000 in
theorem rcheck_calls (s : ByteArray) (w : World) (hs : s.size < 4294967200) :
    Calls Tryz.prog 58 #[.string s] w fun e w' => e = .returned (.int .i64 (Sp.check s.data.toList)) ∧ Below w.heap.size w w' := by
  by_cases h51 : 51 < s.size
  · have F := Lib.hid (show Sp.check s.data.toList = 2 by unfold Sp.check; rw [if_pos (by simpa using h51)])
    go_enter Tryz.func58, Tryz.ntmps58
    go_wp2
    go_ret
    exact ⟨ret_int F.out.symm, Below.refl _ _⟩
  go_enter Tryz.func58, Tryz.ntmps58
  go_wp2_with fail
  refine (pieces_calls s _ (by omega)).mono ?_
  rintro e w1 ⟨hb, ⟨h0, _⟩ | ⟨g, cap, L, hl0, _, rfl, hL, hS, hg⟩⟩
  · exact absurd h0 (Sp.split_ne _)
  obtain ⟨p1, p2, p3⟩ := check_pure s L hL (by omega)
  have hz := split_sizes s L hL
  have P1 := Lib.hid p1
  have P2 := Lib.hid p2
  have P3 := Lib.hid p3
  have HS := Lib.hid hS
  have HZ := Lib.hid hz
  have HL := Lib.hid hL
  clear p1 p2 p3 hS hz hL
  go_wp2
  go_loop [4] (fun i => ∃ k : Nat, k ≤ L.length ∧ i = .int .i64 k ∧ (0 < k → L.length ≤ 4) ∧ ∀ j, (h : j < L.length) → j < k → Sp.name L[j].data.toList = true) (fun i => L.length - (intOf i).toNat)
  case atStart => exact ⟨0, Nat.zero_le _, rfl, fun h => absurd h (by omega), fun _ _ h => absurd h (by omega)⟩
  case round =>
    obtain ⟨k, hk, rfl, h4, hall⟩ := hrel
    have HA := Lib.hid hall
    have H4 := Lib.hid h4
    clear hall h4
    by_cases hlt : k < L.length
    · have hck := HS.out k hlt
      have hzk := HZ.out k hlt
      go_wp2_with (go_at_call 118; refine (rname_calls _ _ (by omega)).mono ?_; rintro e w' ⟨rfl, rfl⟩)
      · have h5 : (4 : Int) < (L.length : Int) := by assumption
        go_ret
        exact ⟨ret_int (P1.out (by omega)).symm, hb⟩
      · have h5 : (L.length : Int) ≤ 4 := by assumption
        have hq : Sp.name L[k].data.toList = true := by assumption
        go_round
        case rel => exact ⟨k + 1, by omega, by go_num, fun _ => by omega, fun j h hj => by
          by_cases e : j = k
          · subst e; exact hq
          · exact HA.out j h (by omega)⟩
        case measure => simp [intOf]; omega
      · have hq : ¬ Sp.name L[k].data.toList = true := by assumption
        go_ret
        exact ⟨ret_int (P2.out k hlt (by simpa using hq)).symm, hb⟩
    · go_wp2
      go_ret
      exact ⟨ret_int (P3.out (H4.out (by omega)) fun j h => HA.out j h (by omega)).symm, hb⟩

set_option maxHeartbeats 1000000 in
theorem rparts_calls (s : ByteArray) (w : World) (hs : s.size < 4294967200) :
    Calls Tryz.prog 80 #[.string s] w (ToldStrs w (Sp.parts s.data.toList)) := by
  by_cases hc : Sp.check s.data.toList = 0
  · have hp : Sp.parts s.data.toList = Sp.split s.data.toList := by
      unfold Sp.check at hc
      split at hc
      · simp at hc
      · split at hc
        · simp at hc
        · rename_i h1 h2
          unfold Sp.parts at h2 ⊢
          rw [if_neg h1] at h2 ⊢
          repeat' split
          all_goals (first | rfl | simp_all)
    have HP := Lib.hid hp
    have HC := Lib.hid hc
    have e0 : (Sp.check s.data.toList != 0) = false := by rw [hc]; rfl
    clear hp hc
    go_enter Tryz.func80, Tryz.ntmps80
    go_wp2_with fail
    refine (rcheck_calls s _ hs).mono ?_
    rintro e w1 ⟨rfl, hb⟩
    go_wp2_with fail
    refine (pieces_calls s _ hs).mono ?_
    rintro e w2 ⟨hb2, h⟩
    rcases h with ⟨h0, rfl⟩ | ⟨g, cap, L, hl0, hlc, rfl, hL, hS, hg⟩
    · exact absurd h0 (Sp.split_ne _)
    · have HL := Lib.hid hL
      have HS := Lib.hid hS
      clear hL hS
      go_wp2
      go_ret
      exact ⟨hb.trans (hb2.mono hb.size), .inr ⟨g, cap, L, hl0, hlc, rfl, HL.out.trans HP.out.symm, HS.out, Nat.le_trans hb.size hg⟩⟩
  · have hp : Sp.parts s.data.toList = [] := by
      unfold Sp.check at hc
      split at hc
      · unfold Sp.parts; rw [if_pos (by assumption)]
      · split at hc
        · exact List.eq_nil_of_length_eq_zero (by assumption)
        · simp at hc
    have HP := Lib.hid hp
    have e0 : (Sp.check s.data.toList != 0) = true := by simpa using hc
    clear hp hc
    go_enter Tryz.func80, Tryz.ntmps80
    go_wp2_with fail
    refine (rcheck_calls s _ hs).mono ?_
    rintro e w1 ⟨rfl, hb⟩
    go_wp2
    go_ret
    exact ⟨hb, .inl ⟨HP.out, rfl⟩⟩
end Go.Proofs.YtmlfnidckfeebaaGreatDoor
namespace Go.Proofs.YtmlfnidckfeebaaGreatDoor
open Go.RowKit
attribute [local go_sem] yUpon strOf_toList
def kid0 : Array Value := (kidL ([], List.replicate 32 0)).toArray
theorem kid_one (k : Sp.Kid) : (kidL k).toArray.all (·.oneCell') = true := by
  apply all_oneCell_toArray
  intro u hu
  unfold kidL at hu
  rcases List.mem_cons.1 hu with rfl | hu
  · rfl
  · exact bytes_one _ u hu
set_option maxRecDepth 100000 in
set_option maxHeartbeats 4000000 in
theorem kids_calls (l : List Sp.Kid) (A : Option Addr) (cap : Nat) (w : World) (h : Kids w A l) :
    Calls Tryz.prog 312 #[.slice A l.length cap] w fun e w' => e = .returned (.int .i64 (Sp.kcheck l)) ∧ Ext w w' := by
  by_cases h128 : 128 < l.length
  · have F := Lib.hid (show Sp.kcheck l = 2 from if_pos h128)
    have c1 : (128 : Int) < (l.length : Int) := by omega
    go_enter Tryz.func312, Tryz.ntmps312
    go_wp2
    go_ret
    exact ⟨ret_int F.out.symm, Ext.refl _⟩
  · have F := Lib.hid (show Sp.kcheck l = Sp.kgo (Sp.pv l 0) (l.drop 0) from if_neg h128)
    have c1 : ¬ (128 : Int) < (l.length : Int) := by omega
    go_enter Tryz.func312, Tryz.ntmps312
    go_wp2
    go_loopw [10] (fun v10 wr => ∃ k : Nat, k ≤ l.length ∧ v10 = .int .i64 k ∧ Ext w wr ∧ Sp.kcheck l = Sp.kgo (Sp.pv l k) (l.drop k)) (fun v10 _ => l.length - (intOf v10).toNat)
    case atStart => exact ⟨0, Nat.zero_le _, rfl, Ext.refl _, F.out⟩
    case round =>
      obtain ⟨k, hk, rfl, hb, hf⟩ := hrel
      by_cases hlt : k < l.length
      · obtain ⟨g, o, rfl, hat⟩ := (h.ext hb).at (by omega)
        have hok := h.2 l[k] (List.getElem_mem hlt)
        rw [Sp.kgo_step l k hlt] at hf
        have hR := hat k hlt
        obtain ⟨kd, hkd⟩ : ∃ kd, kd = l[k] := ⟨_, rfl⟩
        rw [← hkd] at hf hok hR
        have HR := Lib.hid hR
        have KL := kidL_len kd hok.1
        have ka : ((kidL kd).toArray).size = 33 := by simp [KL]
        have k0 : ((kidL kd).toArray)[0]? = some (.string (strOf kd.1)) := rfl
        have HF := Lib.hid hf
        have HB := Lib.hid hb
        have HAT := Lib.hid hat
        have HLT := Lib.hid hlt
        have HKD := Lib.hid hkd
        clear hR hf hb hat hkd
        have tok2 : True := trivial
        have tok3 : True := trivial
        have tok4 : True := trivial
        go_wp2_with (first
          | (have _t2 := tok2; (with_reducible refine at_load (t := 268) rfl ?_); refine wpList_load_mid rfl _ _ rfl g (o + k * 33) rfl (kidL kd) _ HR.out Tryz.underlying268 rfl (by rw [KL]; kernel_rfl) ?_; clear tok2 _t2)
          | (have _t3 := tok3; ((with_reducible refine at_alloc (t := 268) rfl ?_); refine box_new rfl (cs := kid0) (t := 268) (by first | (go_simp; done) | (go_simp; rfl)) ?_; intro g4 w4 hg4 hx4 hb4; have H4 := Lib.hid hx4; have B4 := Lib.hid hb4; have GG4 := Lib.hid hg4; clear tok3 _t3 hx4 hb4 hg4))
          | (have _t4 := tok4; ((with_reducible refine at_store (t := 268) rfl ?_); refine wpList_store_row rfl _ _ _ rfl g4 (kidL kd).toArray rfl rfl 268 _ H4.out (by rw [ka]; kernel_rfl) (by rw [ka]; rfl) (kid_one kd) ?_; obtain ⟨w5, hw5⟩ : ∃ w5, w5 = w4.setRow g4 (kidL kd).toArray := ⟨_, rfl⟩; rw [← hw5]; have B5 := Lib.hid (show Ext wr w5 by rw [hw5]; exact below_setRow B4.out GG4.out _); have X5 := Lib.hid (show isBlk w5 g4 268 (kidL kd).toArray by rw [hw5]; exact setRow_heap _ _ _ _ _ _ H4.out); have f0 := (X5.out.cell 0).trans k0; clear hw5 tok4 _t4)))
        have NC := Lib.hid (name_calls (strOf kd.1) w5 (by rw [strOf_size]; omega))
        rw [strOf_data] at NC
        refine NC.out.mono ?_
        rintro e w6 ⟨rfl, rfl⟩
        have EW := Lib.hid (HB.out.trans B5.out)
        by_cases nm : Sp.name kd.1 = true
        · by_cases hk0 : 0 < k
          · obtain ⟨j, hj⟩ : ∃ j, k = j + 1 := ⟨k - 1, by omega⟩
            have q1 : IntKind.i64.wrap ((k : Int) - 1) = (j : Int) := by rw [IntWalk.i64_in _ (by omega)]; omega
            have b1 : (j : Int) < (l.length : Int) := by omega
            have b2 : (0 : Int) < (k : Int) := by omega
            have kj := kid_name (HAT.out j (by omega))
            obtain ⟨lj, hlj⟩ : ∃ lj, lj = (l[j]'(by omega)).1 := ⟨_, rfl⟩
            rw [← hlj] at kj
            have PV := Lib.hid (show Sp.pv l k = some lj by
              have hjl : j < l.length := by omega
              unfold Sp.pv
              rw [hlj, if_neg (by omega), show k - 1 = j by omega, List.getElem?_eq_getElem hjl]; rfl)
            have KJ := Lib.hid (B5.out.cell kj)
            clear hlj kj hj
            go_wp2_with fail
            refine wp_region_det (fun W => Ext w5 W) (by kernel_rfl) (by kernel_rfl) (Below.refl _ _).drew ?_
            repeat (first
              | (refine det_step (fun K hK => ?_)
                 apply Exists.intro
                 refine ⟨Or.inl ⟨rfl, fun W hS => ?_⟩, ?_⟩
                 · replace hS : Ext w5 W := hS
                   have z := X5.out.below hS; have f0 := (z.cell 0).trans k0; have f1 := hS.cell KJ.out
                   go_simp
                   first
                   | exact rfl
                   | exact ⟨rfl, hS⟩
                   | (fail)
                 go_simp
                 refine hK _ ?_
                 clear hK K)
              | (refine det_step (fun K hK => ?_); refine det_no' rfl ?_; go_simp; refine hK _ ?_; clear hK K))
            refine det_nil ?_
            intro W9 hS
            replace hS : Ext _ W9 := hS
            have F' := HF.out
            rw [if_neg (by rw [nm]; decide), PV.out] at F'
            have F'' := Lib.hid F'
            have HS := Lib.hid (EW.out.trans hS)
            clear F' hS
            go_wp2
            · rename_i hq
              have F' := F''.out
              have hle : Sp.le kd.1 lj = true := by unfold Sp.le; rcases hq with hq | hq <;> simp [hq]
              rw [if_pos (by simpa using hle)] at F'
              go_ret
              exact ⟨ret_int F'.symm, HS.out⟩
            · rename_i hq
              have F' := F''.out
              have hle : ¬ Sp.le kd.1 lj = true := by unfold Sp.le; rw [hq.1, hq.2]; decide
              rw [if_neg (by simpa using hle)] at F'
              go_roundw
              case rel => exact ⟨k + 1, by omega, by go_num, HS.out, F'⟩
              case measure => simp [intOf]; omega
          · obtain rfl : k = 0 := by omega
            have b2 : ¬ (0 : Int) < ((0 : Nat) : Int) := by decide
            go_wp2_with fail
            refine wp_region_det (fun W => Ext w5 W) (by kernel_rfl) (by kernel_rfl) (Below.refl _ _).drew ?_
            repeat (first
              | (refine det_step (fun K hK => ?_)
                 apply Exists.intro
                 refine ⟨Or.inl ⟨rfl, fun W hS => ?_⟩, ?_⟩
                 · replace hS : Ext w5 W := hS
                   have z := X5.out.below hS
                   go_simp
                   first
                   | exact rfl
                   | exact ⟨rfl, hS⟩
                   | (fail)
                 go_simp
                 refine hK _ ?_
                 clear hK K)
              | (refine det_step (fun K hK => ?_); refine det_no' rfl ?_; go_simp; refine hK _ ?_; clear hK K))
            refine det_nil ?_
            intro W9 hS
            replace hS : Ext _ W9 := hS
            have F' := HF.out
            rw [if_neg (by rw [nm]; decide), if_neg (by simp [Sp.pv])] at F'
            have HS := Lib.hid (EW.out.trans hS)
            go_wp2
            go_roundw
            case rel => exact ⟨0 + 1, by omega, by go_num, HS.out, F'⟩
            case measure => simp [intOf]; omega
        · have nf : Sp.name kd.1 = false := by simpa using nm
          have F' := HF.out
          rw [if_pos nf] at F'
          go_wp2
          go_ret
          exact ⟨ret_int F'.symm, EW.out⟩
      · obtain rfl : k = l.length := by omega
        have F' : Sp.kcheck l = 0 := by rw [hf, List.drop_length]; rfl
        go_wp2
        go_ret
        exact ⟨ret_int F'.symm, hb⟩
abbrev nodeV (A : Option Addr) (n cap : Nat) (B : Option Addr) (m cap' : Nat) : Value := .agg #[.slice A n cap, .slice B m cap']
end Go.Proofs.YtmlfnidckfeebaaGreatDoor
