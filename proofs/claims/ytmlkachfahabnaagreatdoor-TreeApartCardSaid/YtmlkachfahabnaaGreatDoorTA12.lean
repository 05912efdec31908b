/- Walks: words, turned. Walks: digests as bytes. -/
import Derived.Test.YtmlkachfahabnaaGreatDoorTA05
import Derived.Test.YtmlkachfahabnaaGreatDoorTA11
import Derived.Laws.Rows
namespace Go.Proofs.YtmlkachfahabnaaGreatDoor
open Go.RowKit
theorem turned_pure (x : UInt32) (n : Nat) : ((x <<< UInt32.ofNat (32 - n)) ||| (x >>> UInt32.ofNat n)) = Sp.rotr x n := by
  unfold Sp.rotr; rw [UInt32.or_comm]
set_option maxRecDepth 100000 in
set_option maxHeartbeats 2000000 in
theorem rotl_calls (x : UInt32) (n : Nat) (w : World) (hn : n ∈ [2, 6, 7, 11, 13, 17, 18, 19, 22, 25]) : Calls Tryz.prog 182 #[wordV x, .int .i64 (-(n : Int))] w fun e w' => e = .returned (wordV (Sp.rotr x n)) ∧ w = w' := by
  have hx := w_lt x
  simp only [List.mem_cons, List.not_mem_nil, or_false] at hn
  rcases hn with rfl | rfl | rfl | rfl | rfl | rfl | rfl | rfl | rfl | rfl
  · have m0 : bits .and .u64 (IntKind.u64.wrap (-2)) 31 = 30 := by decide
    have s1 : IntKind.u32.wrap (wd x * 1073741824) = wd (x <<< UInt32.ofNat (32 - 2)) := w_shl x 30 (by decide)
    have s2 : wd x / 4 = wd (x >>> UInt32.ofNat 2) := w_shr x 2 (by decide)
    have s3 : bits .or .u32 (wd (x <<< UInt32.ofNat (32 - 2))) (wd (x >>> UInt32.ofNat 2)) = wd (Sp.rotr x 2) := by rw [w_or, turned_pure]
    obtain ⟨a, ha⟩ : ∃ a, a = x <<< UInt32.ofNat (32 - 2) := ⟨_, rfl⟩
    obtain ⟨b, hb⟩ : ∃ b, b = x >>> UInt32.ofNat 2 := ⟨_, rfl⟩
    obtain ⟨c, hc⟩ : ∃ c, c = Sp.rotr x 2 := ⟨_, rfl⟩
    rw [← ha] at s1 s3
    rw [← hb] at s2 s3
    rw [← hc] at s3 ⊢
    clear ha hb hc
    go_enter Tryz.func182, Tryz.ntmps182
    go_wp2
    go_ret
    exact ⟨rfl, rfl⟩
  · have m0 : bits .and .u64 (IntKind.u64.wrap (-6)) 31 = 26 := by decide
    have s1 : IntKind.u32.wrap (wd x * 67108864) = wd (x <<< UInt32.ofNat (32 - 6)) := w_shl x 26 (by decide)
    have s2 : wd x / 64 = wd (x >>> UInt32.ofNat 6) := w_shr x 6 (by decide)
    have s3 : bits .or .u32 (wd (x <<< UInt32.ofNat (32 - 6))) (wd (x >>> UInt32.ofNat 6)) = wd (Sp.rotr x 6) := by rw [w_or, turned_pure]
    obtain ⟨a, ha⟩ : ∃ a, a = x <<< UInt32.ofNat (32 - 6) := ⟨_, rfl⟩
    obtain ⟨b, hb⟩ : ∃ b, b = x >>> UInt32.ofNat 6 := ⟨_, rfl⟩
    obtain ⟨c, hc⟩ : ∃ c, c = Sp.rotr x 6 := ⟨_, rfl⟩
    rw [← ha] at s1 s3
    rw [← hb] at s2 s3
    rw [← hc] at s3 ⊢
    clear ha hb hc
    go_enter Tryz.func182, Tryz.ntmps182
    go_wp2
    go_ret
    exact ⟨rfl, rfl⟩
  · have m0 : bits .and .u64 (IntKind.u64.wrap (-7)) 31 = 25 := by decide
    have s1 : IntKind.u32.wrap (wd x * 33554432) = wd (x <<< UInt32.ofNat (32 - 7)) := w_shl x 25 (by decide)
    have s2 : wd x / 128 = wd (x >>> UInt32.ofNat 7) := w_shr x 7 (by decide)
    have s3 : bits .or .u32 (wd (x <<< UInt32.ofNat (32 - 7))) (wd (x >>> UInt32.ofNat 7)) = wd (Sp.rotr x 7) := by rw [w_or, turned_pure]
    obtain ⟨a, ha⟩ : ∃ a, a = x <<< UInt32.ofNat (32 - 7) := ⟨_, rfl⟩
    obtain ⟨b, hb⟩ : ∃ b, b = x >>> UInt32.ofNat 7 := ⟨_, rfl⟩
    obtain ⟨c, hc⟩ : ∃ c, c = Sp.rotr x 7 := ⟨_, rfl⟩
    rw [← ha] at s1 s3
    rw [← hb] at s2 s3
    rw [← hc] at s3 ⊢
    clear ha hb hc
    go_enter Tryz.func182, Tryz.ntmps182
    go_wp2
    go_ret
    exact ⟨rfl, rfl⟩
  · have m0 : bits .and .u64 (IntKind.u64.wrap (-11)) 31 = 21 := by decide
    have s1 : IntKind.u32.wrap (wd x * 2097152) = wd (x <<< UInt32.ofNat (32 - 11)) := w_shl x 21 (by decide)
    have s2 : wd x / 2048 = wd (x >>> UInt32.ofNat 11) := w_shr x 11 (by decide)
    have s3 : bits .or .u32 (wd (x <<< UInt32.ofNat (32 - 11))) (wd (x >>> UInt32.ofNat 11)) = wd (Sp.rotr x 11) := by rw [w_or, turned_pure]
    obtain ⟨a, ha⟩ : ∃ a, a = x <<< UInt32.ofNat (32 - 11) := ⟨_, rfl⟩
    obtain ⟨b, hb⟩ : ∃ b, b = x >>> UInt32.ofNat 11 := ⟨_, rfl⟩
    obtain ⟨c, hc⟩ : ∃ c, c = Sp.rotr x 11 := ⟨_, rfl⟩
    rw [← ha] at s1 s3
    rw [← hb] at s2 s3
    rw [← hc] at s3 ⊢
    clear ha hb hc
    go_enter Tryz.func182, Tryz.ntmps182
    go_wp2
    go_ret
    exact ⟨rfl, rfl⟩
  · have m0 : bits .and .u64 (IntKind.u64.wrap (-13)) 31 = 19 := by decide
    have s1 : IntKind.u32.wrap (wd x * 524288) = wd (x <<< UInt32.ofNat (32 - 13)) := w_shl x 19 (by decide)
    have s2 : wd x / 8192 = wd (x >>> UInt32.ofNat 13) := w_shr x 13 (by decide)
    have s3 : bits .or .u32 (wd (x <<< UInt32.ofNat (32 - 13))) (wd (x >>> UInt32.ofNat 13)) = wd (Sp.rotr x 13) := by rw [w_or, turned_pure]
    obtain ⟨a, ha⟩ : ∃ a, a = x <<< UInt32.ofNat (32 - 13) := ⟨_, rfl⟩
    obtain ⟨b, hb⟩ : ∃ b, b = x >>> UInt32.ofNat 13 := ⟨_, rfl⟩
    obtain ⟨c, hc⟩ : ∃ c, c = Sp.rotr x 13 := ⟨_, rfl⟩
    rw [← ha] at s1 s3
    rw [← hb] at s2 s3
    rw [← hc] at s3 ⊢
    clear ha hb hc
    go_enter Tryz.func182, Tryz.ntmps182
    go_wp2
    go_ret
    exact ⟨rfl, rfl⟩
  · have m0 : bits .and .u64 (IntKind.u64.wrap (-17)) 31 = 15 := by decide
    have s1 : IntKind.u32.wrap (wd x * 32768) = wd (x <<< UInt32.ofNat (32 - 17)) := w_shl x 15 (by decide)
    have s2 : wd x / 131072 = wd (x >>> UInt32.ofNat 17) := w_shr x 17 (by decide)
    have s3 : bits .or .u32 (wd (x <<< UInt32.ofNat (32 - 17))) (wd (x >>> UInt32.ofNat 17)) = wd (Sp.rotr x 17) := by rw [w_or, turned_pure]
    obtain ⟨a, ha⟩ : ∃ a, a = x <<< UInt32.ofNat (32 - 17) := ⟨_, rfl⟩
    obtain ⟨b, hb⟩ : ∃ b, b = x >>> UInt32.ofNat 17 := ⟨_, rfl⟩
    obtain ⟨c, hc⟩ : ∃ c, c = Sp.rotr x 17 := ⟨_, rfl⟩
    rw [← ha] at s1 s3
    rw [← hb] at s2 s3
    rw [← hc] at s3 ⊢
    clear ha hb hc
    go_enter Tryz.func182, Tryz.ntmps182
    go_wp2
    go_ret
    exact ⟨rfl, rfl⟩
  · have m0 : bits .and .u64 (IntKind.u64.wrap (-18)) 31 = 14 := by decide
    have s1 : IntKind.u32.wrap (wd x * 16384) = wd (x <<< UInt32.ofNat (32 - 18)) := w_shl x 14 (by decide)
    have s2 : wd x / 262144 = wd (x >>> UInt32.ofNat 18) := w_shr x 18 (by decide)
    have s3 : bits .or .u32 (wd (x <<< UInt32.ofNat (32 - 18))) (wd (x >>> UInt32.ofNat 18)) = wd (Sp.rotr x 18) := by rw [w_or, turned_pure]
    obtain ⟨a, ha⟩ : ∃ a, a = x <<< UInt32.ofNat (32 - 18) := ⟨_, rfl⟩
    obtain ⟨b, hb⟩ : ∃ b, b = x >>> UInt32.ofNat 18 := ⟨_, rfl⟩
    obtain ⟨c, hc⟩ : ∃ c, c = Sp.rotr x 18 := ⟨_, rfl⟩
    rw [← ha] at s1 s3
    rw [← hb] at s2 s3
    rw [← hc] at s3 ⊢
    clear ha hb hc
    go_enter Tryz.func182, Tryz.ntmps182
    go_wp2
    go_ret
    exact ⟨rfl, rfl⟩
  · have m0 : bits .and .u64 (IntKind.u64.wrap (-19)) 31 = 13 := by decide
    have s1 : IntKind.u32.wrap (wd x * 8192) = wd (x <<< UInt32.ofNat (32 - 19)) := w_shl x 13 (by decide)
    have s2 : wd x / 524288 = wd (x >>> UInt32.ofNat 19) := w_shr x 19 (by decide)
    have s3 : bits .or .u32 (wd (x <<< UInt32.ofNat (32 - 19))) (wd (x >>> UInt32.ofNat 19)) = wd (Sp.rotr x 19) := by rw [w_or, turned_pure]
    obtain ⟨a, ha⟩ : ∃ a, a = x <<< UInt32.ofNat (32 - 19) := ⟨_, rfl⟩
    obtain ⟨b, hb⟩ : ∃ b, b = x >>> UInt32.ofNat 19 := ⟨_, rfl⟩
    obtain ⟨c, hc⟩ : ∃ c, c = Sp.rotr x 19 := ⟨_, rfl⟩
    rw [← ha] at s1 s3
    rw [← hb] at s2 s3
    rw [← hc] at s3 ⊢
    clear ha hb hc
    go_enter Tryz.func182, Tryz.ntmps182
    go_wp2
    go_ret
    exact ⟨rfl, rfl⟩
  · have m0 : bits .and .u64 (IntKind.u64.wrap (-22)) 31 = 10 := by decide
    have s1 : IntKind.u32.wrap (wd x * 1024) = wd (x <<< UInt32.ofNat (32 - 22)) := w_shl x 10 (by decide)
    have s2 : wd x / 4194304 = wd (x >>> UInt32.ofNat 22) := w_shr x 22 (by decide)
    have s3 : bits .or .u32 (wd (x <<< UInt32.ofNat (32 - 22))) (wd (x >>> UInt32.ofNat 22)) = wd (Sp.rotr x 22) := by rw [w_or, turned_pure]
    obtain ⟨a, ha⟩ : ∃ a, a = x <<< UInt32.ofNat (32 - 22) := ⟨_, rfl⟩
    obtain ⟨b, hb⟩ : ∃ b, b = x >>> UInt32.ofNat 22 := ⟨_, rfl⟩
    obtain ⟨c, hc⟩ : ∃ c, c = Sp.rotr x 22 := ⟨_, rfl⟩
    rw [← ha] at s1 s3
    rw [← hb] at s2 s3
    rw [← hc] at s3 ⊢
    clear ha hb hc
    go_enter Tryz.func182, Tryz.ntmps182
    go_wp2
    go_ret
    exact ⟨rfl, rfl⟩
  · have m0 : bits .and .u64 (IntKind.u64.wrap (-25)) 31 = 7 := by decide
    have s1 : IntKind.u32.wrap (wd x * 128) = wd (x <<< UInt32.ofNat (32 - 25)) := w_shl x 7 (by decide)
    have s2 : wd x / 33554432 = wd (x >>> UInt32.ofNat 25) := w_shr x 25 (by decide)
    have s3 : bits .or .u32 (wd (x <<< UInt32.ofNat (32 - 25))) (wd (x >>> UInt32.ofNat 25)) = wd (Sp.rotr x 25) := by rw [w_or, turned_pure]
    obtain ⟨a, ha⟩ : ∃ a, a = x <<< UInt32.ofNat (32 - 25) := ⟨_, rfl⟩
    obtain ⟨b, hb⟩ : ∃ b, b = x >>> UInt32.ofNat 25 := ⟨_, rfl⟩
    obtain ⟨c, hc⟩ : ∃ c, c = Sp.rotr x 25 := ⟨_, rfl⟩
    rw [← ha] at s1 s3
    rw [← hb] at s2 s3
    rw [← hc] at s3 ⊢
    clear ha hb hc
    go_enter Tryz.func182, Tryz.ntmps182
    go_wp2
    go_ret
    exact ⟨rfl, rfl⟩
set_option maxRecDepth 100000 in
set_option maxHeartbeats 2000000 in
theorem turned_calls (x : UInt32) (n : Nat) (w : World) (hn : n ∈ [2, 6, 7, 11, 13, 17, 18, 19, 22, 25]) : Calls Tryz.prog 175 #[wordV x, .int .i64 (n : Int)] w fun e w' => e = .returned (wordV (Sp.rotr x n)) ∧ w = w' := by
  have C := Lib.hid (rotl_calls x n w hn)
  have hn' : 0 ≤ (n : Int) ∧ (n : Int) ≤ 25 := by
    simp only [List.mem_cons, List.not_mem_nil, or_false] at hn
    omega
  have n1 : IntKind.i64.wrap (-(n : Int)) = -(n : Int) := IntWalk.i64_in _ (by omega)
  clear hn
  go_enter Tryz.func175, Tryz.ntmps175
  go_wp2_with (go_at_call 182; refine C.out.mono ?_; rintro e w1 ⟨rfl, rfl⟩)
  go_ret
  exact ⟨rfl, rfl⟩
set_option maxRecDepth 100000 in
set_option maxHeartbeats 2000000 in
theorem rturn_calls (x : UInt32) (n : Nat) (w : World) (hn : n ∈ [2, 6, 7, 11, 13, 17, 18, 19, 22, 25]) : Calls Tryz.prog 40 #[wordV x, .int .u64 (n : Int)] w fun e w' => e = .returned (wordV (Sp.rotr x n)) ∧ w = w' := by
  have hx := w_lt x
  simp only [List.mem_cons, List.not_mem_nil, or_false] at hn
  rcases hn with rfl | rfl | rfl | rfl | rfl | rfl | rfl | rfl | rfl | rfl
  · skip
    have s1 : IntKind.u32.wrap (wd x * 1073741824) = wd (x <<< UInt32.ofNat (32 - 2)) := w_shl x 30 (by decide)
    have s2 : wd x / 4 = wd (x >>> UInt32.ofNat 2) := w_shr x 2 (by decide)
    have s3 : bits .or .u32 (wd (x >>> UInt32.ofNat 2)) (wd (x <<< UInt32.ofNat (32 - 2))) = wd (Sp.rotr x 2) := by rw [w_or]; rfl
    obtain ⟨a, ha⟩ : ∃ a, a = x <<< UInt32.ofNat (32 - 2) := ⟨_, rfl⟩
    obtain ⟨b, hb⟩ : ∃ b, b = x >>> UInt32.ofNat 2 := ⟨_, rfl⟩
    obtain ⟨c, hc⟩ : ∃ c, c = Sp.rotr x 2 := ⟨_, rfl⟩
    rw [← ha] at s1 s3
    rw [← hb] at s2 s3
    rw [← hc] at s3 ⊢
    clear ha hb hc
    go_enter Tryz.func40, Tryz.ntmps40
    go_wp2
    go_ret
    exact ⟨rfl, rfl⟩
  · skip
    have s1 : IntKind.u32.wrap (wd x * 67108864) = wd (x <<< UInt32.ofNat (32 - 6)) := w_shl x 26 (by decide)
    have s2 : wd x / 64 = wd (x >>> UInt32.ofNat 6) := w_shr x 6 (by decide)
    have s3 : bits .or .u32 (wd (x >>> UInt32.ofNat 6)) (wd (x <<< UInt32.ofNat (32 - 6))) = wd (Sp.rotr x 6) := by rw [w_or]; rfl
    obtain ⟨a, ha⟩ : ∃ a, a = x <<< UInt32.ofNat (32 - 6) := ⟨_, rfl⟩
    obtain ⟨b, hb⟩ : ∃ b, b = x >>> UInt32.ofNat 6 := ⟨_, rfl⟩
    obtain ⟨c, hc⟩ : ∃ c, c = Sp.rotr x 6 := ⟨_, rfl⟩
    rw [← ha] at s1 s3
    rw [← hb] at s2 s3
    rw [← hc] at s3 ⊢
    clear ha hb hc
    go_enter Tryz.func40, Tryz.ntmps40
    go_wp2
    go_ret
    exact ⟨rfl, rfl⟩
  · skip
    have s1 : IntKind.u32.wrap (wd x * 33554432) = wd (x <<< UInt32.ofNat (32 - 7)) := w_shl x 25 (by decide)
    have s2 : wd x / 128 = wd (x >>> UInt32.ofNat 7) := w_shr x 7 (by decide)
    have s3 : bits .or .u32 (wd (x >>> UInt32.ofNat 7)) (wd (x <<< UInt32.ofNat (32 - 7))) = wd (Sp.rotr x 7) := by rw [w_or]; rfl
    obtain ⟨a, ha⟩ : ∃ a, a = x <<< UInt32.ofNat (32 - 7) := ⟨_, rfl⟩
    obtain ⟨b, hb⟩ : ∃ b, b = x >>> UInt32.ofNat 7 := ⟨_, rfl⟩
    obtain ⟨c, hc⟩ : ∃ c, c = Sp.rotr x 7 := ⟨_, rfl⟩
    rw [← ha] at s1 s3
    rw [← hb] at s2 s3
    rw [← hc] at s3 ⊢
    clear ha hb hc
    go_enter Tryz.func40, Tryz.ntmps40
    go_wp2
    go_ret
    exact ⟨rfl, rfl⟩
  · skip
    have s1 : IntKind.u32.wrap (wd x * 2097152) = wd (x <<< UInt32.ofNat (32 - 11)) := w_shl x 21 (by decide)
    have s2 : wd x / 2048 = wd (x >>> UInt32.ofNat 11) := w_shr x 11 (by decide)
    have s3 : bits .or .u32 (wd (x >>> UInt32.ofNat 11)) (wd (x <<< UInt32.ofNat (32 - 11))) = wd (Sp.rotr x 11) := by rw [w_or]; rfl
    obtain ⟨a, ha⟩ : ∃ a, a = x <<< UInt32.ofNat (32 - 11) := ⟨_, rfl⟩
    obtain ⟨b, hb⟩ : ∃ b, b = x >>> UInt32.ofNat 11 := ⟨_, rfl⟩
    obtain ⟨c, hc⟩ : ∃ c, c = Sp.rotr x 11 := ⟨_, rfl⟩
    rw [← ha] at s1 s3
    rw [← hb] at s2 s3
    rw [← hc] at s3 ⊢
    clear ha hb hc
    go_enter Tryz.func40, Tryz.ntmps40
    go_wp2
    go_ret
    exact ⟨rfl, rfl⟩
  · skip
    have s1 : IntKind.u32.wrap (wd x * 524288) = wd (x <<< UInt32.ofNat (32 - 13)) := w_shl x 19 (by decide)
    have s2 : wd x / 8192 = wd (x >>> UInt32.ofNat 13) := w_shr x 13 (by decide)
    have s3 : bits .or .u32 (wd (x >>> UInt32.ofNat 13)) (wd (x <<< UInt32.ofNat (32 - 13))) = wd (Sp.rotr x 13) := by rw [w_or]; rfl
    obtain ⟨a, ha⟩ : ∃ a, a = x <<< UInt32.ofNat (32 - 13) := ⟨_, rfl⟩
    obtain ⟨b, hb⟩ : ∃ b, b = x >>> UInt32.ofNat 13 := ⟨_, rfl⟩
    obtain ⟨c, hc⟩ : ∃ c, c = Sp.rotr x 13 := ⟨_, rfl⟩
    rw [← ha] at s1 s3
    rw [← hb] at s2 s3
    rw [← hc] at s3 ⊢
    clear ha hb hc
    go_enter Tryz.func40, Tryz.ntmps40
    go_wp2
    go_ret
    exact ⟨rfl, rfl⟩
  · skip
    have s1 : IntKind.u32.wrap (wd x * 32768) = wd (x <<< UInt32.ofNat (32 - 17)) := w_shl x 15 (by decide)
    have s2 : wd x / 131072 = wd (x >>> UInt32.ofNat 17) := w_shr x 17 (by decide)
    have s3 : bits .or .u32 (wd (x >>> UInt32.ofNat 17)) (wd (x <<< UInt32.ofNat (32 - 17))) = wd (Sp.rotr x 17) := by rw [w_or]; rfl
    obtain ⟨a, ha⟩ : ∃ a, a = x <<< UInt32.ofNat (32 - 17) := ⟨_, rfl⟩
    obtain ⟨b, hb⟩ : ∃ b, b = x >>> UInt32.ofNat 17 := ⟨_, rfl⟩
    obtain ⟨c, hc⟩ : ∃ c, c = Sp.rotr x 17 := ⟨_, rfl⟩
    rw [← ha] at s1 s3
    rw [← hb] at s2 s3
    rw [← hc] at s3 ⊢
    clear ha hb hc
    go_enter Tryz.func40, Tryz.ntmps40
    go_wp2
    go_ret
    exact ⟨rfl, rfl⟩
  · skip
    have s1 : IntKind.u32.wrap (wd x * 16384) = wd (x <<< UInt32.ofNat (32 - 18)) := w_shl x 14 (by decide)
    have s2 : wd x / 262144 = wd (x >>> UInt32.ofNat 18) := w_shr x 18 (by decide)
    have s3 : bits .or .u32 (wd (x >>> UInt32.ofNat 18)) (wd (x <<< UInt32.ofNat (32 - 18))) = wd (Sp.rotr x 18) := by rw [w_or]; rfl
    obtain ⟨a, ha⟩ : ∃ a, a = x <<< UInt32.ofNat (32 - 18) := ⟨_, rfl⟩
    obtain ⟨b, hb⟩ : ∃ b, b = x >>> UInt32.ofNat 18 := ⟨_, rfl⟩
    obtain ⟨c, hc⟩ : ∃ c, c = Sp.rotr x 18 := ⟨_, rfl⟩
    rw [← ha] at s1 s3
    rw [← hb] at s2 s3
    rw [← hc] at s3 ⊢
    clear ha hb hc
    go_enter Tryz.func40, Tryz.ntmps40
    go_wp2
    go_ret
    exact ⟨rfl, rfl⟩
  · skip
    have s1 : IntKind.u32.wrap (wd x * 8192) = wd (x <<< UInt32.ofNat (32 - 19)) := w_shl x 13 (by decide)
    have s2 : wd x / 524288 = wd (x >>> UInt32.ofNat 19) := w_shr x 19 (by decide)
    have s3 : bits .or .u32 (wd (x >>> UInt32.ofNat 19)) (wd (x <<< UInt32.ofNat (32 - 19))) = wd (Sp.rotr x 19) := by rw [w_or]; rfl
    obtain ⟨a, ha⟩ : ∃ a, a = x <<< UInt32.ofNat (32 - 19) := ⟨_, rfl⟩
    obtain ⟨b, hb⟩ : ∃ b, b = x >>> UInt32.ofNat 19 := ⟨_, rfl⟩
    obtain ⟨c, hc⟩ : ∃ c, c = Sp.rotr x 19 := ⟨_, rfl⟩
    rw [← ha] at s1 s3
    rw [← hb] at s2 s3
    rw [← hc] at s3 ⊢
    clear ha hb hc
    go_enter Tryz.func40, Tryz.ntmps40
    go_wp2
    go_ret
    exact ⟨rfl, rfl⟩
  · skip
    have s1 : IntKind.u32.wrap (wd x * 1024) = wd (x <<< UInt32.ofNat (32 - 22)) := w_shl x 10 (by decide)
    have s2 : wd x / 4194304 = wd (x >>> UInt32.ofNat 22) := w_shr x 22 (by decide)
    have s3 : bits .or .u32 (wd (x >>> UInt32.ofNat 22)) (wd (x <<< UInt32.ofNat (32 - 22))) = wd (Sp.rotr x 22) := by rw [w_or]; rfl
    obtain ⟨a, ha⟩ : ∃ a, a = x <<< UInt32.ofNat (32 - 22) := ⟨_, rfl⟩
    obtain ⟨b, hb⟩ : ∃ b, b = x >>> UInt32.ofNat 22 := ⟨_, rfl⟩
    obtain ⟨c, hc⟩ : ∃ c, c = Sp.rotr x 22 := ⟨_, rfl⟩
    rw [← ha] at s1 s3
    rw [← hb] at s2 s3
    rw [← hc] at s3 ⊢
    clear ha hb hc
    go_enter Tryz.func40, Tryz.ntmps40
    go_wp2
    go_ret
    exact ⟨rfl, rfl⟩
  · skip
    have s1 : IntKind.u32.wrap (wd x * 128) = wd (x <<< UInt32.ofNat (32 - 25)) := w_shl x 7 (by decide)
    have s2 : wd x / 33554432 = wd (x >>> UInt32.ofNat 25) := w_shr x 25 (by decide)
    have s3 : bits .or .u32 (wd (x >>> UInt32.ofNat 25)) (wd (x <<< UInt32.ofNat (32 - 25))) = wd (Sp.rotr x 25) := by rw [w_or]; rfl
    obtain ⟨a, ha⟩ : ∃ a, a = x <<< UInt32.ofNat (32 - 25) := ⟨_, rfl⟩
    obtain ⟨b, hb⟩ : ∃ b, b = x >>> UInt32.ofNat 25 := ⟨_, rfl⟩
    obtain ⟨c, hc⟩ : ∃ c, c = Sp.rotr x 25 := ⟨_, rfl⟩
    rw [← ha] at s1 s3
    rw [← hb] at s2 s3
    rw [← hc] at s3 ⊢
    clear ha hb hc
    go_enter Tryz.func40, Tryz.ntmps40
    go_wp2
    go_ret
    exact ⟨rfl, rfl⟩
end Go.Proofs.YtmlkachfahabnaaGreatDoor
namespace Go.Proofs.YtmlkachfahabnaaGreatDoor
open Go.RowKit Go.Shelf
theorem one_cell (w : World) (c : UInt8) (t : TypeId) : ∀ i, (h : i < [c].length) → (w.alloc (.cells #[.int .u8 c.toNat] t)).cell? ⟨w.heap.size, 0 + i, none⟩ = some (byteV [c][i]) := fun i hi => by
  obtain rfl : i = 0 := by simpa using hi
  rw [cell_of_row _ w.heap.size 0 _ _ (0, 0) (heap_alloc_new w _)]
  rfl
/-- A digest's cells. -/
def digC (d : Sp.Bs) : Array Value := (d.map byteV).toArray
abbrev digV (d : Sp.Bs) : Value := .agg (digC d)
theorem digC_size (d : Sp.Bs) : (digC d).size = d.length := by simp [digC]
theorem digC_get (d : Sp.Bs) (i : Nat) (h : i < d.length) : (digC d)[i]? = some (byteV d[i]) := by simp [digC, h]
set_option maxRecDepth 100000 in
set_option maxHeartbeats 2000000 in
theorem wdigest_calls (B g : Nat) (x : Sp.W) (d : Sp.Bs) (w : World) (hd : d.length = 32) (h : IsWr B g x w) (hlen : x.1.length ≤ 100000000000000) (hBw : B ≤ w.heap.size) :
    Calls Tryz.prog 130 #[.pointer (some ⟨g, 0, none⟩), digV d] w fun e w' => e = .returned (.tuple #[]) ∧ WTo B g (Sp.wdigest d x) w w' := by
  obtain ⟨W0, hW0⟩ : ∃ W0, W0 = w.alloc (.cells (digC d) 33) := ⟨_, rfl⟩
  have SZ := Lib.hid (show W0.heap.size = w.heap.size + 1 by rw [hW0]; simp)
  have E0 := Lib.hid (show Ext w W0 by rw [hW0]; exact Ext.alloc _ _)
  have CC := Lib.hid (show ∀ i, (h : i < d.length) → W0.cell? ⟨w.heap.size, 0 + i, none⟩ = some (byteV d[i]) from fun i hi => by rw [hW0, Nat.zero_add, (box_at w (digC d) 33).cell i, digC_get d i hi])
  have PU := Lib.hid (wput_calls B g (w.heap.size + 1) x true [strOf d] (W0.alloc (.cells #[.string (strOf d)] 9)) (h.below (E0.out.trans (Ext.alloc _ _))) (by rw [← SZ.out]; exact box_at _ _ _) (by simp; omega) (by have := E0.out.size; simp; omega) (by simp))
  have HW := Lib.hid hW0.symm
  have HB := Lib.hid hBw
  have F := Lib.hid (show Sp.wdigest d x = Sp.wput true (([strOf d] : List ByteArray).flatMap (fun s => s.data.toList)) x by rw [List.flatMap_cons, List.flatMap_nil, List.append_nil, strOf_data]; rfl)
  obtain ⟨x2, hx2⟩ : ∃ x2, x2 = Sp.wput true (([strOf d] : List ByteArray).flatMap (fun s => s.data.toList)) x := ⟨_, rfl⟩
  rw [← hx2] at F PU
  have hds := digC_size d
  clear h hBw hW0 hx2
  go_enter Tryz.func130, Tryz.ntmps130
  go_wp2_with (refine conv_new rfl rfl Tryz.underlying84 Tryz.underlying5 Tryz.underlying9 w.heap.size 0 32 32 d rfl hd.symm ?cc ?_; (case cc => rw [HW.out]; exact CC.out))
  rw [HW.out]
  refine PU.out.mono ?_
  rintro e w1 ⟨rfl, hw1, hb1, hk1, hs1⟩
  go_wp2
  go_end0
  have e1 := E0.out.trans (Ext.alloc W0 (.cells #[.string (strOf d)] 9))
  exact ⟨rfl, by rw [F.out]; exact hw1, (Below.mono e1 HB.out).trans hb1, (Kept.below e1).trans hk1, Nat.le_trans e1.size hs1⟩
set_option maxRecDepth 100000 in
set_option maxHeartbeats 4000000 in
theorem rwdigest_calls (g : Nat) (x : Sp.W) (d : Sp.Bs) (w : World) (hd : d.length = 32) (h : isRW w g x) (hlen : x.1.length ≤ 100000000000000) :
    Calls Tryz.prog 55 #[.pointer (some ⟨g, 0, none⟩), digV d] w fun e w' => e = .returned (.tuple #[]) ∧ RTo g (Sp.wdigest d x) w w' := by
  obtain ⟨W0, hW0⟩ : ∃ W0, W0 = w.alloc (.cells (digC d) 33) := ⟨_, rfl⟩
  have HBX := Lib.hid (show isBlk W0 w.heap.size 33 (digC d) by rw [hW0]; exact box_at _ _ _)
  have E0 := Lib.hid (show Ext w W0 by rw [hW0]; exact Ext.alloc _ _)
  have HW := Lib.hid hW0.symm
  have P := Lib.hid fun W (e : Ext w W) => rwput_calls g x true d W (h.below e) (by omega)
  have hds := digC_size d
  clear hW0 h
  go_enter Tryz.func55, Tryz.ntmps55
  go_wp2_with fail
  rw [HW.out]
  go_loopw [4, 5] (fun v4 v5 wr => ∃ k : Nat, k ≤ 32 ∧ v5 = .int .i64 k ∧ v4 = .string (strOf (d.take k)) ∧ Ext W0 wr) (fun _ v5 _ => 32 - (intOf v5).toNat)
  case atStart => exact ⟨0, by decide, rfl, rfl, Ext.refl _⟩
  case round =>
    obtain ⟨k, hk, rfl, rfl, hb⟩ := hrel
    by_cases hlt : k < 32
    · have hkd : k < d.length := by omega
      have c0 := ((HBX.out.below hb).cell k).trans (digC_get d k hkd)
      unfold byteV at c0
      have a1 : strOf (d.take k) ++ strOf [d[k]] = strOf (d.take (k + 1)) := by rw [strOf_append, strOf_data, List.take_succ_eq_append_getElem hkd]
      have s1 : (strOf (d.take k)).size = k := by rw [strOf_size, List.length_take]; omega
      have s2 : (strOf [d[k]]).size = 1 := strOf_size _
      have HB := Lib.hid hb
      have H32 := Lib.hid hd
      clear hb hd
      go_wp2_with (refine conv_new rfl rfl Tryz.underlying84 Tryz.underlying5 Tryz.underlying9 wr.heap.size 0 1 1 [d[k]] rfl rfl ?cc ?_; (case cc => exact one_cell wr d[k] _))
      go_roundw
      case rel => exact ⟨k + 1, by omega, by go_num, rfl, HB.out.trans (Ext.alloc _ _)⟩
      case measure => simp [intOf]; omega
    · obtain rfl : k = 32 := by omega
      rw [← hd, List.take_length]
      have HB := Lib.hid hb
      have PP := Lib.hid (P.out wr (E0.out.trans hb))
      clear hb
      go_wp2_with fail
      refine PP.out.mono ?_
      rintro e w1 ⟨rfl, h1, h2⟩
      go_wp2
      go_end0
      exact ⟨rfl, h1, (Only.of_below g (E0.out.trans HB.out)).trans h2⟩
end Go.Proofs.YtmlkachfahabnaaGreatDoor
