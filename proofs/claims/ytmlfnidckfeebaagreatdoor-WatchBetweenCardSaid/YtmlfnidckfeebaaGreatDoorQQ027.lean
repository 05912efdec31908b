/- Walks: words, turned. Walks: digests as bytes. Walks: names and paths, the reference's. Walks: kids. -/
import Derived.Test.YtmlfnidckfeebaaGreatDoorQQ008
import Derived.Test.YtmlfnidckfeebaaGreatDoorQQ026
namespace Go.Proofs.YtmlfnidckfeebaaGreatDoor
open Go.RowKit
set_option maxRecDepth 100000 in
set_option maxHeartbeats 2000000 in
theorem rturn_calls (x : UInt32) (n : Nat) (w : World) (hn : n ∈ [2, 6, 7, 11, 13, 17, 18, 19, 22, 25]) : Calls Tryz.prog 224 #[wordV x, .int .u64 (n : Int)] w fun e w' => e = .returned (wordV (Sp.rotr x n)) ∧ w = w' := by
  have hx := w_lt x
  simp only [List.mem_cons, List.not_mem_nil, or_false] at hn
  rcases hn with rfl | rfl | rfl | rfl | rfl | rfl | rfl | rfl | rfl | rfl
  · skip
    have s1 : IntKind.u32.wrap (wd x * 1073741824) = wd (x <<< UInt32.ofNat (32 - 2)) := w_shl x 30 (by decide)
    have s2 : wd x / 4 = wd (x >>> UInt32.ofNat 2) := w_shr x 2 (by decide)
    have s3 : bits .or .u32 (wd (x >>> UInt32.ofNat 2)) (wd (x <<< UInt32.ofNat (32 - 2))) = wd (Sp.rotr x 2) := by rw [w_or]; rfl
    obtain ⟨a, ha⟩ : ∃ a, a = x <<< UInt32.ofNat (32 - 2) := ⟨_, rfl⟩
    obtain ⟨b, hb⟩ : ∃ b, b = x >>> UInt32.ofNat 2 := ⟨_, rfl⟩
    obtain ⟨c, hc⟩ : ∃ c, c = Sp.rotr x 2 := ⟨_, rfl⟩
    rw [← ha] at s1 s3
    rw [← hb] at s2 s3
    rw [← hc] at s3 ⊢
    clear ha hb hc
    go_enter Tryz.func224, Tryz.ntmps224
    go_wp2
    go_ret
    exact ⟨rfl, rfl⟩
  · skip
    have s1 : IntKind.u32.wrap (wd x * 67108864) = wd (x <<< UInt32.ofNat (32 - 6)) := w_shl x 26 (by decide)
    have s2 : wd x / 64 = wd (x >>> UInt32.ofNat 6) := w_shr x 6 (by decide)
    have s3 : bits .or .u32 (wd (x >>> UInt32.ofNat 6)) (wd (x <<< UInt32.ofNat (32 - 6))) = wd (Sp.rotr x 6) := by rw [w_or]; rfl
    obtain ⟨a, ha⟩ : ∃ a, a = x <<< UInt32.ofNat (32 - 6) := ⟨_, rfl⟩
    obtain ⟨b, hb⟩ : ∃ b, b = x >>> UInt32.ofNat 6 := ⟨_, rfl⟩
    obtain ⟨c, hc⟩ : ∃ c, c = Sp.rotr x 6 := ⟨_, rfl⟩
    rw [← ha] at s1 s3
    rw [← hb] at s2 s3
    rw [← hc] at s3 ⊢
    clear ha hb hc
    go_enter Tryz.func224, Tryz.ntmps224
    go_wp2
    go_ret
    exact ⟨rfl, rfl⟩
  · skip
    have s1 : IntKind.u32.wrap (wd x * 33554432) = wd (x <<< UInt32.ofNat (32 - 7)) := w_shl x 25 (by decide)
    have s2 : wd x / 128 = wd (x >>> UInt32.ofNat 7) := w_shr x 7 (by decide)
    have s3 : bits .or .u32 (wd (x >>> UInt32.ofNat 7)) (wd (x <<< UInt32.ofNat (32 - 7))) = wd (Sp.rotr x 7) := by rw [w_or]; rfl
    obtain ⟨a, ha⟩ : ∃ a, a = x <<< UInt32.ofNat (32 - 7) := ⟨_, rfl⟩
    obtain ⟨b, hb⟩ : ∃ b, b = x >>> UInt32.ofNat 7 := ⟨_, rfl⟩
    obtain ⟨c, hc⟩ : ∃ c, c = Sp.rotr x 7 := ⟨_, rfl⟩
    rw [← ha] at s1 s3
    rw [← hb] at s2 s3
    rw [← hc] at s3 ⊢
    clear ha hb hc
    go_enter Tryz.func224, Tryz.ntmps224
    go_wp2
    go_ret
    exact ⟨rfl, rfl⟩
  · skip
    have s1 : IntKind.u32.wrap (wd x * 2097152) = wd (x <<< UInt32.ofNat (32 - 11)) := w_shl x 21 (by decide)
    have s2 : wd x / 2048 = wd (x >>> UInt32.ofNat 11) := w_shr x 11 (by decide)
    have s3 : bits .or .u32 (wd (x >>> UInt32.ofNat 11)) (wd (x <<< UInt32.ofNat (32 - 11))) = wd (Sp.rotr x 11) := by rw [w_or]; rfl
    obtain ⟨a, ha⟩ : ∃ a, a = x <<< UInt32.ofNat (32 - 11) := ⟨_, rfl⟩
    obtain ⟨b, hb⟩ : ∃ b, b = x >>> UInt32.ofNat 11 := ⟨_, rfl⟩
    obtain ⟨c, hc⟩ : ∃ c, c = Sp.rotr x 11 := ⟨_, rfl⟩
    rw [← ha] at s1 s3
    rw [← hb] at s2 s3
    rw [← hc] at s3 ⊢
    clear ha hb hc
    go_enter Tryz.func224, Tryz.ntmps224
    go_wp2
    go_ret
    exact ⟨rfl, rfl⟩
  · skip
    have s1 : IntKind.u32.wrap (wd x * 524288) = wd (x <<< UInt32.ofNat (32 - 13)) := w_shl x 19 (by decide)
    have s2 : wd x / 8192 = wd (x >>> UInt32.ofNat 13) := w_shr x 13 (by decide)
    have s3 : bits .or .u32 (wd (x >>> UInt32.ofNat 13)) (wd (x <<< UInt32.ofNat (32 - 13))) = wd (Sp.rotr x 13) := by rw [w_or]; rfl
    obtain ⟨a, ha⟩ : ∃ a, a = x <<< UInt32.ofNat (32 - 13) := ⟨_, rfl⟩
    obtain ⟨b, hb⟩ : ∃ b, b = x >>> UInt32.ofNat 13 := ⟨_, rfl⟩
    obtain ⟨c, hc⟩ : ∃ c, c = Sp.rotr x 13 := ⟨_, rfl⟩
    rw [← ha] at s1 s3
    rw [← hb] at s2 s3
    rw [← hc] at s3 ⊢
    clear ha hb hc
    go_enter Tryz.func224, Tryz.ntmps224
    go_wp2
    go_ret
    exact ⟨rfl, rfl⟩
  · skip
    have s1 : IntKind.u32.wrap (wd x * 32768) = wd (x <<< UInt32.ofNat (32 - 17)) := w_shl x 15 (by decide)
    have s2 : wd x / 131072 = wd (x >>> UInt32.ofNat 17) := w_shr x 17 (by decide)
    have s3 : bits .or .u32 (wd (x >>> UInt32.ofNat 17)) (wd (x <<< UInt32.ofNat (32 - 17))) = wd (Sp.rotr x 17) := by rw [w_or]; rfl
    obtain ⟨a, ha⟩ : ∃ a, a = x <<< UInt32.ofNat (32 - 17) := ⟨_, rfl⟩
    obtain ⟨b, hb⟩ : ∃ b, b = x >>> UInt32.ofNat 17 := ⟨_, rfl⟩
    obtain ⟨c, hc⟩ : ∃ c, c = Sp.rotr x 17 := ⟨_, rfl⟩
    rw [← ha] at s1 s3
    rw [← hb] at s2 s3
    rw [← hc] at s3 ⊢
    clear ha hb hc
    go_enter Tryz.func224, Tryz.ntmps224
    go_wp2
    go_ret
    exact ⟨rfl, rfl⟩
  · skip
    have s1 : IntKind.u32.wrap (wd x * 16384) = wd (x <<< UInt32.ofNat (32 - 18)) := w_shl x 14 (by decide)
    have s2 : wd x / 262144 = wd (x >>> UInt32.ofNat 18) := w_shr x 18 (by decide)
    have s3 : bits .or .u32 (wd (x >>> UInt32.ofNat 18)) (wd (x <<< UInt32.ofNat (32 - 18))) = wd (Sp.rotr x 18) := by rw [w_or]; rfl
    obtain ⟨a, ha⟩ : ∃ a, a = x <<< UInt32.ofNat (32 - 18) := ⟨_, rfl⟩
    obtain ⟨b, hb⟩ : ∃ b, b = x >>> UInt32.ofNat 18 := ⟨_, rfl⟩
    obtain ⟨c, hc⟩ : ∃ c, c = Sp.rotr x 18 := ⟨_, rfl⟩
    rw [← ha] at s1 s3
    rw [← hb] at s2 s3
    rw [← hc] at s3 ⊢
    clear ha hb hc
    go_enter Tryz.func224, Tryz.ntmps224
    go_wp2
    go_ret
    exact ⟨rfl, rfl⟩
  · skip
    have s1 : IntKind.u32.wrap (wd x * 8192) = wd (x <<< UInt32.ofNat (32 - 19)) := w_shl x 13 (by decide)
    have s2 : wd x / 524288 = wd (x >>> UInt32.ofNat 19) := w_shr x 19 (by decide)
    have s3 : bits .or .u32 (wd (x >>> UInt32.ofNat 19)) (wd (x <<< UInt32.ofNat (32 - 19))) = wd (Sp.rotr x 19) := by rw [w_or]; rfl
    obtain ⟨a, ha⟩ : ∃ a, a = x <<< UInt32.ofNat (32 - 19) := ⟨_, rfl⟩
    obtain ⟨b, hb⟩ : ∃ b, b = x >>> UInt32.ofNat 19 := ⟨_, rfl⟩
    obtain ⟨c, hc⟩ : ∃ c, c = Sp.rotr x 19 := ⟨_, rfl⟩
    rw [← ha] at s1 s3
    rw [← hb] at s2 s3
    rw [← hc] at s3 ⊢
    clear ha hb hc
    go_enter Tryz.func224, Tryz.ntmps224
    go_wp2
    go_ret
    exact ⟨rfl, rfl⟩
  · skip
    have s1 : IntKind.u32.wrap (wd x * 1024) = wd (x <<< UInt32.ofNat (32 - 22)) := w_shl x 10 (by decide)
    have s2 : wd x / 4194304 = wd (x >>> UInt32.ofNat 22) := w_shr x 22 (by decide)
    have s3 : bits .or .u32 (wd (x >>> UInt32.ofNat 22)) (wd (x <<< UInt32.ofNat (32 - 22))) = wd (Sp.rotr x 22) := by rw [w_or]; rfl
    obtain ⟨a, ha⟩ : ∃ a, a = x <<< UInt32.ofNat (32 - 22) := ⟨_, rfl⟩
    obtain ⟨b, hb⟩ : ∃ b, b = x >>> UInt32.ofNat 22 := ⟨_, rfl⟩
    obtain ⟨c, hc⟩ : ∃ c, c = Sp.rotr x 22 := ⟨_, rfl⟩
    rw [← ha] at s1 s3
    rw [← hb] at s2 s3
    rw [← hc] at s3 ⊢
    clear ha hb hc
    go_enter Tryz.func224, Tryz.ntmps224
    go_wp2
    go_ret
    exact ⟨rfl, rfl⟩
  · skip
    have s1 : IntKind.u32.wrap (wd x * 128) = wd (x <<< UInt32.ofNat (32 - 25)) := w_shl x 7 (by decide)
    have s2 : wd x / 33554432 = wd (x >>> UInt32.ofNat 25) := w_shr x 25 (by decide)
    have s3 : bits .or .u32 (wd (x >>> UInt32.ofNat 25)) (wd (x <<< UInt32.ofNat (32 - 25))) = wd (Sp.rotr x 25) := by rw [w_or]; rfl
    obtain ⟨a, ha⟩ : ∃ a, a = x <<< UInt32.ofNat (32 - 25) := ⟨_, rfl⟩
    obtain ⟨b, hb⟩ : ∃ b, b = x >>> UInt32.ofNat 25 := ⟨_, rfl⟩
    obtain ⟨c, hc⟩ : ∃ c, c = Sp.rotr x 25 := ⟨_, rfl⟩
    rw [← ha] at s1 s3
    rw [← hb] at s2 s3
    rw [← hc] at s3 ⊢
    clear ha hb hc
    go_enter Tryz.func224, Tryz.ntmps224
    go_wp2
    go_ret
    exact ⟨rfl, rfl⟩
end Go.Proofs.YtmlfnidckfeebaaGreatDoor
namespace Go.Proofs.YtmlfnidckfeebaaGreatDoor
open Go.RowKit Go.Shelf
theorem one_cell (w : World) (c : UInt8) (t : TypeId) : ∀ i, (h : i < [c].length) → (w.alloc (.cells #[.int .u8 c.toNat] t)).cell? ⟨w.heap.size, 0 + i, none⟩ = some (byteV [c][i]) := fun i hi => by
  obtain rfl : i = 0 := by simpa using hi
  rw [cell_of_row _ w.heap.size 0 _ _ (0, 0) (heap_alloc_new w _)]
  rfl
set_option maxRecDepth 100000 in
set_option maxHeartbeats 4000000 in
theorem rwdigest_calls (g : Nat) (x : Sp.W) (d : Sp.Bs) (w : World) (hd : d.length = 32) (h : isRW w g x) (hlen : x.1.length ≤ 100000000000000) :
    Calls Tryz.prog 227 #[.pointer (some ⟨g, 0, none⟩), digV d] w fun e w' => e = .returned (.tuple #[]) ∧ RTo g (Sp.wdigest d x) w w' := by
  obtain ⟨W0, hW0⟩ : ∃ W0, W0 = w.alloc (.cells (digC d) 36) := ⟨_, rfl⟩
  have HBX := Lib.hid (show isBlk W0 w.heap.size 36 (digC d) by rw [hW0]; exact box_at _ _ _)
  have E0 := Lib.hid (show Ext w W0 by rw [hW0]; exact Ext.alloc _ _)
  have HW := Lib.hid hW0.symm
  have P := Lib.hid fun W (e : Ext w W) => rwput_calls g x true d W (h.below e) (by omega)
  have hds := digC_size d
  clear hW0 h
  go_enter Tryz.func227, Tryz.ntmps227
  go_wp2_with fail
  rw [HW.out]
  go_loopw [4, 5] (fun v4 v5 wr => ∃ k : Nat, k ≤ 32 ∧ v5 = .int .i64 k ∧ v4 = .string (strOf (d.take k)) ∧ Ext W0 wr) (fun _ v5 _ => 32 - (intOf v5).toNat)
  case atStart => exact ⟨0, by decide, rfl, rfl, Ext.refl _⟩
  case round =>
    obtain ⟨k, hk, rfl, rfl, hb⟩ := hrel
    by_cases hlt : k < 32
    · have hkd : k < d.length := by omega
      have c0 := ((HBX.out.below hb).cell k).trans (digC_get d k hkd)
      unfold byteV at c0
      have a1 : strOf (d.take k) ++ strOf [d[k]] = strOf (d.take (k + 1)) := by rw [strOf_append, strOf_data, List.take_succ_eq_append_getElem hkd]
      have s1 : (strOf (d.take k)).size = k := by rw [strOf_size, List.length_take]; omega
      have s2 : (strOf [d[k]]).size = 1 := strOf_size _
      have HB := Lib.hid hb
      have H32 := Lib.hid hd
      clear hb hd
      go_wp2_with (refine conv_new rfl rfl Tryz.underlying172 Tryz.underlying5 Tryz.underlying9 wr.heap.size 0 1 1 [d[k]] rfl rfl ?cc ?_; (case cc => exact one_cell wr d[k] _))
      go_roundw
      case rel => exact ⟨k + 1, by omega, by go_num, rfl, HB.out.trans (Ext.alloc _ _)⟩
      case measure => simp [intOf]; omega
    · obtain rfl : k = 32 := by omega
      rw [← hd, List.take_length]
      have HB := Lib.hid hb
      have PP := Lib.hid (P.out wr (E0.out.trans hb))
      clear hb
      go_wp2_with fail
      refine PP.out.mono ?_
      rintro e w1 ⟨rfl, h1, h2⟩
      go_wp2
      go_end0
      exact ⟨rfl, h1, (Only.of_below g (E0.out.trans HB.out)).trans h2⟩
end Go.Proofs.YtmlfnidckfeebaaGreatDoor
namespace Go.Proofs.YtmlfnidckfeebaaGreatDoor
open Go.RowKit

theorem sign_iff (c : UInt8) : Sp.sign c = true ↔ (97 ≤ (c.toNat : Int) ∧ (c.toNat : Int) ≤ 122 ∨ 48 ≤ (c.toNat : Int) ∧ (c.toNat : Int) ≤ 57 ∨ (c.toNat : Int) = 46 ∨ (c.toNat : Int) = 95 ∨ (c.toNat : Int) = 45) := by
  simp only [Sp.sign, Sp.low, Bool.or_eq_true, Bool.and_eq_true, decide_eq_true_eq, beq_iff_eq, UInt8.le_iff_toNat_le, ← UInt8.toNat_inj]
  simp; omega

theorem sign_cases (c : UInt8) : (Sp.sign c = true ∧ 97 ≤ (c.toNat : Int) ∧ (c.toNat : Int) ≤ 122) ∨ (Sp.sign c = true ∧ 48 ≤ (c.toNat : Int) ∧ (c.toNat : Int) ≤ 57) ∨ (Sp.sign c = true ∧ (c.toNat : Int) = 46) ∨ (Sp.sign c = true ∧ (c.toNat : Int) = 95) ∨ (Sp.sign c = true ∧ (c.toNat : Int) = 45) ∨
    (Sp.sign c = false ∧ (decide ((c.toNat : Int) < 97) || decide ((122 : Int) < c.toNat)) = true ∧ (decide ((c.toNat : Int) < 48) || decide ((57 : Int) < c.toNat)) = true ∧ ((c.toNat : Int) != 46) = true ∧ ((c.toNat : Int) != 95) = true ∧ ((c.toNat : Int) != 45) = true) := by
  have h := sign_iff c
  cases e : Sp.sign c with
  | true => have := h.1 e; simp only [true_and, Bool.true_eq_false, false_and, or_false]; omega
  | false =>
    have := mt h.2 (by rw [e]; simp)
    simp only [true_and, Bool.false_eq_true, false_and, false_or, Bool.or_eq_true, decide_eq_true_eq, bne_iff_ne]; omega

set_option maxHeartbeats 1000000 in
theorem rname_calls (s : ByteArray) (w : World) (hs : s.size < 4294967281) : Calls Tryz.prog 118 #[.string s] w fun e w' => e = .returned (.bool (Sp.name s.data.toList)) ∧ w = w' := by
  by_cases h0 : s.toList = []
  · have F := Lib.hid (name_no s (.inl h0))
    have hz : s.size = 0 := by rw [toList_data] at h0; have := congrArg List.length h0; simpa using this
    have e1 : decide ((s.size : Int) < 1) = true := by simp; omega
    clear h0
    go_enter Tryz.func118, Tryz.ntmps118
    go_wp2
    go_ret
    exact ⟨ret_bool F.out.symm, rfl⟩
  have hz : 1 ≤ s.size := by rw [toList_data] at h0; have := List.length_pos_iff.2 h0; simp at this; omega
  have e0 : decide ((s.size : Int) < 1) = false := by simp; omega
  by_cases h1 : 12 < s.size
  · have F := Lib.hid (name_no s (.inr (.inl h1)))
    have e1 : decide ((12 : Int) < (s.size : Int)) = true := by simp; omega
    clear h1
    go_enter Tryz.func118, Tryz.ntmps118
    go_wp2
    go_ret
    exact ⟨ret_bool F.out.symm, rfl⟩
  have e1 : decide ((12 : Int) < (s.size : Int)) = false := by simp; omega
  by_cases h2 : s.toList = [46]
  · have F := Lib.hid (name_no s (.inr (.inr (.inl h2))))
    clear h1
    go_enter Tryz.func118, Tryz.ntmps118
    go_wp2
    go_ret
    exact ⟨ret_bool F.out.symm, rfl⟩
  have e2 : (s.toList == [46]) = false := by simpa using h2
  by_cases h3 : s.toList = [46, 46]
  · have F := Lib.hid (name_no s (.inr (.inr (.inr h3))))
    clear h1 h2 e2
    go_enter Tryz.func118, Tryz.ntmps118
    go_wp2
    go_ret
    exact ⟨ret_bool F.out.symm, rfl⟩
  have e3 : (s.toList == [46, 46]) = false := by simpa using h3
  have F := Lib.hid (name_if s h0 h1 h2 h3)
  clear h0 h1 h2 h3
  go_enter Tryz.func118, Tryz.ntmps118
  go_wp2
  go_loop [3, 4] (fun i t => ∃ k : Nat, k ≤ s.size ∧ i = .int .i64 k ∧ (s.data.toList.take k).all Sp.sign = true) (fun i _ => s.size - (intOf i).toNat)
  case atStart => exact ⟨0, Nat.zero_le _, rfl, rfl⟩
  case round =>
    obtain ⟨k, hk, rfl, hall⟩ := hrel
    by_cases hlt : k < s.size
    · have ht := Lib.hid (take_all s k hlt Sp.sign hall)
      have b := byte_lt s[k]
      rcases sign_cases s[k] with ⟨g, c1, c2⟩ | ⟨g, c1, c2⟩ | ⟨g, c1⟩ | ⟨g, c1⟩ | ⟨g, c1⟩ | ⟨g, c1, c2, c3, c4, c5⟩
      · have G := Lib.hid g
        clear g
        go_wp2
        go_round
        case rel => exact ⟨k + 1, by omega, by go_num, by rw [ht.out]; exact G.out⟩
        case measure => simp [intOf]; omega
      · have G := Lib.hid g
        clear g
        go_wp2
        go_round
        case rel => exact ⟨k + 1, by omega, by go_num, by rw [ht.out]; exact G.out⟩
        case measure => simp [intOf]; omega
      · have G := Lib.hid g
        clear g
        go_wp2
        go_round
        case rel => exact ⟨k + 1, by omega, by go_num, by rw [ht.out]; exact G.out⟩
        case measure => simp [intOf]; omega
      · have G := Lib.hid g
        clear g
        go_wp2
        go_round
        case rel => exact ⟨k + 1, by omega, by go_num, by rw [ht.out]; exact G.out⟩
        case measure => simp [intOf]; omega
      · have G := Lib.hid g
        clear g
        go_wp2
        go_round
        case rel => exact ⟨k + 1, by omega, by go_num, by rw [ht.out]; exact G.out⟩
        case measure => simp [intOf]; omega
      · have G := Lib.hid g
        clear g
        go_wp2
        all_goals
          go_ret
          exact ⟨ret_bool (by rw [F.out, all_no s k hlt Sp.sign G.out]), rfl⟩
    · obtain rfl : k = s.size := by omega
      rw [take_size] at hall
      have H := Lib.hid hall
      clear hall
      go_wp2
      go_ret
      exact ⟨ret_bool (by rw [F.out, H.out]), rfl⟩

theorem split_cons_ne {d : UInt8} {r h : Sp.Bs} {t : List Sp.Bs} (hd : ¬ d = 47) (e : Sp.split r = h :: t) : Sp.split (d :: r) = (d :: h) :: t := by
  rw [Sp.split, if_neg hd, e]
theorem split_snoc (l : Sp.Bs) (c : UInt8) : Sp.split (l ++ [c]) = if c = 47 then Sp.split l ++ [[]] else (Sp.split l).dropLast ++ [(Sp.split l).getLast (Sp.split_ne l) ++ [c]] := by
  induction l with
  | nil => simp only [List.nil_append, Sp.split]; split <;> rfl
  | cons d r ih =>
    rw [List.cons_append]
    by_cases hd : d = 47
    · have e : Sp.split (d :: r) = [] :: Sp.split r := by rw [Sp.split, if_pos hd]
      rw [Sp.split, if_pos hd, ih]
      simp only [e]
      split
      · rfl
      · rw [List.dropLast_cons_of_ne_nil (Sp.split_ne r), List.getLast_cons (Sp.split_ne r)]; rfl
    · obtain ⟨h, t, e1⟩ : ∃ h t, Sp.split r = h :: t := by
        cases e : Sp.split r with
        | nil => exact absurd e (Sp.split_ne r)
        | cons h t => exact ⟨h, t, rfl⟩
      simp only [split_cons_ne hd e1]
      simp only [e1] at ih
      by_cases hc : c = 47
      · rw [if_pos hc] at ih ⊢
        exact split_cons_ne hd ih
      · rw [if_neg hc] at ih ⊢
        cases t with
        | nil => exact split_cons_ne hd ih
        | cons x t =>
          have ih' : Sp.split (r ++ [c]) = h :: ((x :: t).dropLast ++ [(x :: t).getLast (by simp) ++ [c]]) := by rw [ih]; simp
          rw [split_cons_ne hd ih']; simp

theorem extract_one (s : ByteArray) (k : Nat) (h : k < s.size) : (s.extract k (k + 1)).data.toList = [s[k]] := by
  have h' : k < s.data.toList.length := by simpa using h
  have e : s[k] = s.data.toList[k] := rfl
  rw [Lib.extract_data, e]
  simp only [Nat.add_sub_cancel_left]
  rw [List.drop_eq_getElem_cons h']; rfl

theorem app27 : AppStat Tryz.prog 32 9 1 16 := by
  refine ⟨Tryz.underlying32, by decide, by decide, ?_⟩
  obtain ⟨i0, hi, hz0, hz1, hz2⟩ := info_parts (show (Tryz.prog.info? 9).map (fun i => (i.zero, i.size, i.bytes)) = some (some (.string ⟨#[]⟩), 1, 16) by kernel_rfl)
  exact ⟨i0, _, hi, hz0, hz1, hz2, rfl⟩

set_option maxHeartbeats 1000000 in
theorem pieces_calls (s : ByteArray) (w : World) (hs : s.size < 4294967200) :
    Calls Tryz.prog 87 #[.string s] w (ToldStrs w (Sp.split s.data.toList)) := by
  go_enter Tryz.func87, Tryz.ntmps87
  go_wp2
  go_loopw [3, 4] (fun v i wr => ∃ (k g cap : Nat) (M : List ByteArray) (x : ByteArray), k ≤ s.size ∧ i = .int .i64 k ∧ v = .slice (some ⟨g, 0, none⟩) (M.length + 1) cap ∧ w.heap.size ≤ g ∧ M.length ≤ k ∧ x.size ≤ k ∧ (M ++ [x]).map (·.data.toList) = Sp.split (s.data.toList.take k) ∧ wr.ownsRow w.heap.size 9 1 (.slice (some ⟨g, 0, none⟩) (M.length + 1) cap) (M.length + 1) ((M ++ [x]).map Value.string) ∧ Below w.heap.size w wr) (fun _ i _ => s.size - (intOf i).toNat)
  case atStart =>
    refine ⟨0, w.heap.size, 1, [], ByteArray.empty, Nat.zero_le _, rfl, rfl, Nat.le_refl _, Nat.le_refl _, by simp, by simp [Sp.split], ?_, (Below.refl _ _).alloc (Nat.le_refl _) _⟩
    exact World.ownsRow_lit w #[.string ⟨#[]⟩] 1 (Nat.le_refl _) (by decide) rfl
  case round =>
    obtain ⟨k, g, cap, M, x, hk, rfl, rfl, hg, hM, hx, hsp, hown, hb⟩ := hrel
    by_cases hlt : k < s.size
    · have hsn := split_snoc (s.data.toList.take k) s[k]
      rw [← take_snoc s k hlt] at hsn
      by_cases hc : s[k] = 47
      · have hb1 : (((s[k]).toNat : Int) == 47) = true := by rw [hc]; rfl
        rw [if_pos hc, ← hsp] at hsn
        have HN := Lib.hid hsn
        have HP := Lib.hid hsp
        clear hsn hsp hc
        go_wp2_with (at_builtin; refine app_new app27 rfl _ _ rfl w.heap.size _ (M.length + 1) _ rfl hown #[.string ⟨#[]⟩] _ 1 rfl rfl ?c1 (by decide) ?c2 ?c3 ?_; (case c1 => (intro u hu; simp at hu; subst hu; rfl)); (case c2 => omega); (case c3 => exact hb.size); intro g' cap' w' hown' _ hb' hg')
        go_roundw
        case rel =>
          refine ⟨k + 1, g', cap', M ++ [x], ⟨#[]⟩, by omega, by go_num, ?_, hg', by simp; omega, Nat.zero_le _, ?_, ?_, hb.trans hb'⟩
          · simp
          · rw [HN.out]; simp
          · simpa using hown'
        case measure => simp [intOf]; omega
      · have hb1 : (((s[k]).toNat : Int) == 47) = false := by
          rw [beq_eq_false_iff_ne]; intro e; exact hc (UInt8.toNat_inj.1 (by simpa using (by omega : (s[k]).toNat = 47)))
        have hsn' : Sp.split (s.data.toList.take (k + 1)) = M.map (·.data.toList) ++ [x.data.toList ++ [s[k]]] := by
          rw [hsn, if_neg hc]; simp [← hsp]
        have HN := Lib.hid hsn'
        have HP := Lib.hid hsp
        have hcell : wr.cell? ⟨g, M.length, none⟩ = some (.string x) := by rw [hown.cellAt M.length (by omega)]; simp
        have hfr := hown.frozenAt M.length
        have q1 : IntKind.i64.wrap (M.length : Int) = (M.length : Int) := IntWalk.i64_in _ (by omega)
        have q2 : IntKind.i64.wrap ((k : Int) + 1) = (k : Int) + 1 := IntWalk.i64_in _ (by omega)
        have q3 : ∀ W, (Instr.slice 9 (.string s) (some (.int .i64 (k : Int))) (some (.int .i64 ((k : Int) + 1))) none).run Tryz.prog W = .ok (.string (s.extract k (k + 1))) W := fun W => by
          rw [run_slice_string W _ s .i64 .i64 (k : Int) ((k : Int) + 1) Tryz.underlying9 (by omega) (by omega) (by omega)]; rfl
        clear hsn' hsn hsp hc
        go_wp2_with fail
        go_region
        go_wp2
        have hown1 := (hown.stored M.length (.string (x ++ s.extract k (k + 1)))).1
        have hl : (List.map Value.string (M ++ [x])).set M.length (.string (x ++ s.extract k (k + 1))) = List.map Value.string (M ++ [x ++ s.extract k (k + 1)]) := by simp
        rw [hl] at hown1
        go_roundw
        case rel =>
          refine ⟨k + 1, g, cap, M, x ++ s.extract k (k + 1), by omega, by go_num, rfl, hg, by omega, by simp; omega, ?_, hown1, ?_⟩
          · rw [HN.out, ← extract_one s k hlt]; simp
          · exact (hb.drew).setCell (by exact hg) _
        case measure => simp [intOf]; omega
    · obtain rfl : k = s.size := by omega
      rw [take_size] at hsp
      have HP := Lib.hid hsp
      clear hsp
      go_wp2
      go_ret
      have hcap : M.length + 1 ≤ cap := by
        rcases hown.2 with ⟨h, _⟩ | ⟨_, _, _, h, _, _, hc, _⟩
        · cases h
        · cases h; exact hc
      refine ⟨hb, .inr ⟨g, cap, M ++ [x], by simp, by simpa using hcap, by simp, HP.out, ?_, hg⟩⟩
      intro j hj
      rw [hown.cellAt j (by simpa using hj), List.getElem?_map, List.getElem?_eq_getElem hj]; rfl

theorem check_pure (s : ByteArray) (L : List ByteArray) (hL : L.map (·.data.toList) = Sp.split s.data.toList) (h51 : s.size ≤ 51) :
    (4 < L.length → Sp.check s.data.toList = 1) ∧ (∀ k, (h : k < L.length) → Sp.name L[k].data.toList = false → Sp.check s.data.toList = 1) ∧
    (L.length ≤ 4 → (∀ k, (h : k < L.length) → Sp.name L[k].data.toList = true) → Sp.check s.data.toList = 0) := by
  obtain ⟨p1, p2, p3⟩ := parts_calls.pure s L hL h51
  have hl : ¬ 51 < s.data.toList.length := by simp; omega
  have hl0 : 0 < L.length := by
    rw [← List.length_map (f := fun x : ByteArray => x.data.toList), hL]; exact List.length_pos_iff.2 (Sp.split_ne _)
  refine ⟨fun h => ?_, fun k h hn => ?_, fun h4 h => ?_⟩
  · unfold Sp.check; rw [if_neg hl, p1 h]; rfl
  · unfold Sp.check; rw [if_neg hl, p2 k h hn]; rfl
  · unfold Sp.check; rw [if_neg hl, p3 h4 h, if_neg (by simp; exact fun e => by rw [e] at hl0; simp at hl0)]

set_option maxHeartbeats 1000000 in
theorem rcheck_calls (s : ByteArray) (w : World) (hs : s.size < 4294967200) :
    Calls Tryz.prog 58 #[.string s] w fun e w' => e = .returned (.int .i64 (Sp.check s.data.toList)) ∧ Below w.heap.size w w' := by
  by_cases h51 : 51 < s.size
  · have F := Lib.hid (show Sp.check s.data.toList = 2 by unfold Sp.check; rw [if_pos (by simpa using h51)])
    go_enter Tryz.func58, Tryz.ntmps58
    go_wp2
    go_ret
    exact ⟨ret_int F.out.symm, Below.refl _ _⟩
  go_enter Tryz.func58, Tryz.ntmps58
  go_wp2_with fail
  refine (pieces_calls s _ (by omega)).mono ?_
  rintro e w1 ⟨hb, ⟨h0, _⟩ | ⟨g, cap, L, hl0, _, rfl, hL, hS, hg⟩⟩
  · exact absurd h0 (Sp.split_ne _)
  obtain ⟨p1, p2, p3⟩ := check_pure s L hL (by omega)
  have hz := split_sizes s L hL
  have P1 := Lib.hid p1
  have P2 := Lib.hid p2
  have P3 := Lib.hid p3
  have HS := Lib.hid hS
  have HZ := Lib.hid hz
  have HL := Lib.hid hL
  clear p1 p2 p3 hS hz hL
  go_wp2
  go_loop [4] (fun i => ∃ k : Nat, k ≤ L.length ∧ i = .int .i64 k ∧ (0 < k → L.length ≤ 4) ∧ ∀ j, (h : j < L.length) → j < k → Sp.name L[j].data.toList = true) (fun i => L.length - (intOf i).toNat)
  case atStart => exact ⟨0, Nat.zero_le _, rfl, fun h => absurd h (by omega), fun _ _ h => absurd h (by omega)⟩
  case round =>
    obtain ⟨k, hk, rfl, h4, hall⟩ := hrel
    have HA := Lib.hid hall
    have H4 := Lib.hid h4
    clear hall h4
    by_cases hlt : k < L.length
    · have hck := HS.out k hlt
      have hzk := HZ.out k hlt
      go_wp2_with (go_at_call 118; refine (rname_calls _ _ (by omega)).mono ?_; rintro e w' ⟨rfl, rfl⟩)
      · have h5 : (4 : Int) < (L.length : Int) := by assumption
        go_ret
        exact ⟨ret_int (P1.out (by omega)).symm, hb⟩
      · have h5 : (L.length : Int) ≤ 4 := by assumption
        have hq : Sp.name L[k].data.toList = true := by assumption
        go_round
        case rel => exact ⟨k + 1, by omega, by go_num, fun _ => by omega, fun j h hj => by
          by_cases e : j = k
          · subst e; exact hq
          · exact HA.out j h (by omega)⟩
        case measure => simp [intOf]; omega
      · have hq : ¬ Sp.name L[k].data.toList = true := by assumption
        go_ret
        exact ⟨ret_int (P2.out k hlt (by simpa using hq)).symm, hb⟩
    · go_wp2
      go_ret
      exact ⟨ret_int (P3.out (H4.out (by omega)) fun j h => HA.out j h (by omega)).symm, hb⟩

set_option maxHeartbeats 1000000 in
theorem rparts_calls (s : ByteArray) (w : World) (hs : s.size < 4294967200) :
    Calls Tryz.prog 80 #[.string s] w (ToldStrs w (Sp.parts s.data.toList)) := by
  by_cases hc : Sp.check s.data.toList = 0
  · have hp : Sp.parts s.data.toList = Sp.split s.data.toList := by
      unfold Sp.check at hc
      split at hc
      · simp at hc
      · split at hc
        · simp at hc
        · rename_i h1 h2
          unfold Sp.parts at h2 ⊢
          rw [if_neg h1] at h2 ⊢
          repeat' split
          all_goals (first | rfl | simp_all)
    have HP := Lib.hid hp
    have HC := Lib.hid hc
    have e0 : (Sp.check s.data.toList != 0) = false := by rw [hc]; rfl
    clear hp hc
    go_enter Tryz.func80, Tryz.ntmps80
    go_wp2_with fail
    refine (rcheck_calls s _ hs).mono ?_
    rintro e w1 ⟨rfl, hb⟩
    go_wp2_with fail
    refine (pieces_calls s _ hs).mono ?_
    rintro e w2 ⟨hb2, h⟩
    rcases h with ⟨h0, rfl⟩ | ⟨g, cap, L, hl0, hlc, rfl, hL, hS, hg⟩
    · exact absurd h0 (Sp.split_ne _)
    · have HL := Lib.hid hL
      have HS := Lib.hid hS
      clear hL hS
      go_wp2
      go_ret
      exact ⟨hb.trans (hb2.mono hb.size), .inr ⟨g, cap, L, hl0, hlc, rfl, HL.out.trans HP.out.symm, HS.out, Nat.le_trans hb.size hg⟩⟩
  · have hp : Sp.parts s.data.toList = [] := by
      unfold Sp.check at hc
      split at hc
      · unfold Sp.parts; rw [if_pos (by assumption)]
      · split at hc
        · exact List.eq_nil_of_length_eq_zero (by assumption)
        · simp at hc
    have HP := Lib.hid hp
    have e0 : (Sp.check s.data.toList != 0) = true := by simpa using hc
    clear hp hc
    go_enter Tryz.func80, Tryz.ntmps80
    go_wp2_with fail
    refine (rcheck_calls s _ hs).mono ?_
    rintro e w1 ⟨rfl, hb⟩
    go_wp2
    go_ret
    exact ⟨hb, .inl ⟨HP.out, rfl⟩⟩
end Go.Proofs.YtmlfnidckfeebaaGreatDoor
namespace Go.Proofs.YtmlfnidckfeebaaGreatDoor
open Go.RowKit
attribute [local go_sem] yUpon strOf_toList
set_option maxRecDepth 100000 in
set_option maxHeartbeats 4000000 in
theorem rncheck_calls (n : Sp.Node) (A B : Option Addr) (cap cap' : Nat) (w : World) (hV : Vers w A n.1) (hK : Kids w B n.2) :
    Calls Tryz.prog 226 #[nodeV A n.1.length cap B n.2.length cap'] w fun e w' => e = .returned (.int .i64 (Sp.ncheck n)) ∧ Ext w w' := by
  obtain ⟨vs, l⟩ := n
  obtain ⟨W0, hW0⟩ : ∃ W0, W0 = w.alloc (.cells #[.slice A vs.length cap, .slice B l.length cap'] 116) := ⟨_, rfl⟩
  have E0 := Lib.hid (show Ext w W0 by rw [hW0]; exact Ext.alloc _ _)
  obtain ⟨g0, hg0⟩ : ∃ g0, g0 = w.heap.size := ⟨_, rfl⟩
  have X0 := Lib.hid (show isBlk W0 g0 116 #[.slice A vs.length cap, .slice B l.length cap'] by rw [hW0, hg0]; exact box_at _ _ _)
  have LC := Lib.hid (rleaf_calls vs A cap W0 (hV.ext E0.out))
  have HW := Lib.hid hW0.symm
  have KK := Lib.hid hK
  clear hW0 hK
  go_enter Tryz.func226, Tryz.ntmps226
  go_wp2_with fail
  rw [HW.out, ← hg0]
  clear hg0
  refine LC.out.mono ?_
  rintro e W1 ⟨rfl, hb1⟩
  have E1 := Lib.hid (E0.out.trans hb1)
  have X1 := Lib.hid (X0.out.below hb1)
  have g0' := (X1.out.cell 0).trans rfl
  have g1' := (X1.out.cell 1).trans rfl
  clear hb1
  by_cases hl : Sp.leaf vs = 0
  · rw [hl]
    by_cases h128 : 128 < l.length
    · have F := Lib.hid (show Sp.ncheck (vs, l) = 2 by unfold Sp.ncheck; rw [if_neg (by simpa using hl)]; exact if_pos h128)
      have c1 : (128 : Int) < (l.length : Int) := by omega
      go_wp2
      go_ret
      exact ⟨ret_int F.out.symm, E1.out⟩
    · have F := Lib.hid (show Sp.ncheck (vs, l) = Sp.kgo (Sp.pv l 0) (l.drop 0) by unfold Sp.ncheck; rw [if_neg (by simpa using hl)]; exact if_neg h128)
      have c1 : ¬ (128 : Int) < (l.length : Int) := by omega
      go_wp2
      clear g0' g1'
      go_loopw [4] (fun v4 wr => ∃ k : Nat, k ≤ l.length ∧ v4 = .int .i64 k ∧ Ext w wr ∧ isBlk wr g0 116 #[.slice A vs.length cap, .slice B l.length cap'] ∧ Sp.ncheck (vs, l) = Sp.kgo (Sp.pv l k) (l.drop k)) (fun v4 _ => l.length - (intOf v4).toNat)
      case atStart => exact ⟨0, Nat.zero_le _, rfl, E1.out, X1.out, F.out⟩
      case round =>
        obtain ⟨k, hk, rfl, hb, hx, hf⟩ := hrel
        have g1' := (hx.cell 1).trans rfl
        have HX := Lib.hid hx
        have HB := Lib.hid hb
        clear hx
        by_cases hlt : k < l.length
        · obtain ⟨g, o, rfl, hat⟩ := (KK.out.ext hb).at (by have := hlt; exact Nat.lt_of_le_of_lt (Nat.zero_le _) hlt)
          have hok := KK.out.2 l[k] (List.getElem_mem hlt)
          rw [Sp.kgo_step l k hlt] at hf
          have kk := kid_name (hat k hlt)
          obtain ⟨nk, hnk⟩ : ∃ nk, nk = l[k].1 := ⟨_, rfl⟩
          have hkl : nk.length ≤ 1000000 := by rw [hnk]; exact hok.2
          rw [← hnk] at hf kk
          have HF := Lib.hid hf
          have HAT := Lib.hid hat
          have NC := Lib.hid (rname_calls (strOf nk) wr (by rw [strOf_size]; omega))
          rw [strOf_data] at NC
          have KW := Lib.hid kk
          clear hf hat hb hok hnk
          go_wp2_with fail
          refine NC.out.mono ?_
          rintro e w6 ⟨rfl, rfl⟩
          by_cases nm : Sp.name nk = true
          · by_cases hk0 : 0 < k
            · obtain ⟨j, hj⟩ : ∃ j, k = j + 1 := ⟨k - 1, by omega⟩
              have q1 : IntKind.i64.wrap ((k : Int) - 1) = (j : Int) := by rw [IntWalk.i64_in _ (by omega)]; omega
              have b1 : (j : Int) < (l.length : Int) := by omega
              have b2 : (0 : Int) < (k : Int) := by omega
              have kj := kid_name (HAT.out j (by omega))
              obtain ⟨lj, hlj⟩ : ∃ lj, lj = (l[j]'(by omega)).1 := ⟨_, rfl⟩
              rw [← hlj] at kj
              have PV := Lib.hid (show Sp.pv l k = some lj by
                have hjl : j < l.length := by omega
                unfold Sp.pv
                rw [hlj, if_neg (by omega), show k - 1 = j by omega, List.getElem?_eq_getElem hjl]; rfl)
              have KJ := Lib.hid kj
              clear hlj kj hj
              go_wp2_with fail
              refine wp_region_det (fun W => Ext wr W) (by kernel_rfl) (by kernel_rfl) (Below.refl _ _).drew ?_
              repeat (first
                | (refine det_step (fun K hK => ?_)
                   apply Exists.intro
                   refine ⟨Or.inl ⟨rfl, fun W hS => ?_⟩, ?_⟩
                   · replace hS : Ext wr W := hS
                     have f0 := hS.cell KW.out; have f1 := hS.cell KJ.out; have f2 := hS.cell g1'
                     go_simp
                     first
                     | exact rfl
                     | exact ⟨rfl, hS⟩
                     | (fail)
                   go_simp
                   refine hK _ ?_
                   clear hK K)
                | (refine det_step (fun K hK => ?_); refine det_no' rfl ?_; go_simp; refine hK _ ?_; clear hK K))
              refine det_nil ?_
              intro W9 hS
              replace hS : Ext _ W9 := hS
              have F' := HF.out
              rw [if_neg (by rw [nm]; decide), PV.out] at F'
              have F'' := Lib.hid F'
              have HS := Lib.hid (HB.out.trans hS)
              have HX' := Lib.hid (HX.out.below hS)
              clear F' hS
              go_wp2
              · rename_i hq
                have F' := F''.out
                have hle : Sp.le nk lj = true := by unfold Sp.le; rcases hq with hq | hq <;> simp [hq]
                rw [if_pos (by simpa using hle)] at F'
                go_ret
                exact ⟨ret_int F'.symm, HS.out⟩
              · rename_i hq
                have F' := F''.out
                have hle : ¬ Sp.le nk lj = true := by unfold Sp.le; rw [hq.1, hq.2]; decide
                rw [if_neg (by simpa using hle)] at F'
                go_roundw
                case rel => exact ⟨k + 1, by omega, by go_num, HS.out, HX'.out, F'⟩
                case measure => simp [intOf]; omega
            · obtain rfl : k = 0 := by omega
              have b2 : ¬ (0 : Int) < ((0 : Nat) : Int) := by decide
              go_wp2_with fail
              refine wp_region_det (fun W => Ext wr W) (by kernel_rfl) (by kernel_rfl) (Below.refl _ _).drew ?_
              repeat (first
                | (refine det_step (fun K hK => ?_)
                   apply Exists.intro
                   refine ⟨Or.inl ⟨rfl, fun W hS => ?_⟩, ?_⟩
                   · replace hS : Ext wr W := hS
                     have f2 := hS.cell g1'
                     go_simp
                     first
                     | exact rfl
                     | exact ⟨rfl, hS⟩
                     | (fail)
                   go_simp
                   refine hK _ ?_
                   clear hK K)
                | (refine det_step (fun K hK => ?_); refine det_no' rfl ?_; go_simp; refine hK _ ?_; clear hK K))
              refine det_nil ?_
              intro W9 hS
              replace hS : Ext _ W9 := hS
              have F' := HF.out
              rw [if_neg (by rw [nm]; decide), if_neg (by simp [Sp.pv])] at F'
              have HS := Lib.hid (HB.out.trans hS)
              have HX' := Lib.hid (HX.out.below hS)
              go_wp2
              go_roundw
              case rel => exact ⟨0 + 1, by omega, by go_num, HS.out, HX'.out, F'⟩
              case measure => simp [intOf]; omega
          · have nf : Sp.name nk = false := by simpa using nm
            have F' := HF.out
            rw [if_pos nf] at F'
            go_wp2
            go_ret
            exact ⟨ret_int F'.symm, HB.out⟩
        · obtain rfl : k = l.length := by omega
          have F' : Sp.ncheck (vs, l) = 0 := by rw [hf, List.drop_length]; rfl
          go_wp2
          go_ret
          exact ⟨ret_int F'.symm, hb⟩
  · have F := Lib.hid (show Sp.ncheck (vs, l) = Sp.leaf vs by unfold Sp.ncheck; exact if_pos (by simpa using hl))
    go_wp2
    go_ret
    exact ⟨ret_int F.out.symm, E1.out⟩
end Go.Proofs.YtmlfnidckfeebaaGreatDoor
