/- Walks: what a coder.Writer has put. -/
import Derived.Test.YtbjdgiocehoaiaaDoorCoderB
namespace Go.Proofs.YtbjdgiocehoaiaaDoor
open Go.RowKit
set_option maxRecDepth 100000 in
set_option maxHeartbeats 1000000 in
theorem bstr_calls (B g : Nat) (l : List UInt8) (e : Int) (w : World) (h : IsW B g l e w) (h0 : l ≠ []) :
    Calls Tryd.prog 66 #[.pointer (some ⟨g, 0, none⟩)] w fun e' w' => e' = .returned (.string (strOf l)) ∧ Below B w w' := by
  obtain ⟨hB, p, v, hp, hblk, hown, hne⟩ := h
  have hl0 : l.length ≠ 0 := by simpa using h0
  obtain ⟨k, cap, cur, rfl, hbg, hg, hnc, hcm, hcs, htake⟩ : ∃ k cap cur, v = .slice (some ⟨k, 0, none⟩) l.length cap ∧ B ≤ k ∧ w.heap[k]? = some (.cells cur 5 (0, 0)) ∧ l.length ≤ cap ∧ cap ≤ maxLen ∧ cur.size = cap * 1 ∧ cur.toList.take (l.length * 1) = l.map byteV := by
    rcases hown.2 with ⟨_, hz⟩ | ⟨k, cap, cur, hv, r⟩
    · exact absurd hz hl0
    · exact ⟨k, cap, cur, hv, r⟩
  have c1 : w.drew.cell? ⟨g, 1, none⟩ = some (.slice (some ⟨k, 0, none⟩) l.length cap) := (hblk.cell 1).trans rfl
  have hSD : (Builtin.unsafeSliceData_ #[49] 102 #[.slice (some ⟨k, 0, none⟩) l.length cap]).run Tryd.prog w.drew = .ok (.pointer (some ⟨k, 0, none⟩)) w.drew :=
    Lib.run_unsafeSliceData_row _ _ _ _ _ _ (by omega)
  have hUS : (Builtin.unsafeString_ #[102, 3] 9 #[.pointer (some ⟨k, 0, none⟩), .int .i64 l.length]).run Tryd.prog w.drew = .ok (.string (strOf l)) (w.drew.freeze ⟨k, 0, none⟩ l.length) := by
    refine Lib.run_unsafeString_row w.drew 102 3 9 5 Tryd.underlying102 (by kernel_rfl) k cur.size (by have hg' : w.drew.heap[k]? = some (.cells cur 5 (0, 0)) := hg; simp [World.shape?, hg']) l h0 (by omega) (by unfold maxLen at hcm; omega) ?_
    intro j x hx
    have := hown.cells (g := k) rfl j (.int .u8 x.toNat) (by simp [byteV, hx])
    exact this
  clear hown hp htake hcs hcm hnc
  have HG := Lib.hid hg
  clear hg h0 hl0 hblk hne
  go_enter Tryd.func66, Tryd.ntmps66
  go_wp2
  have mixed : Tryd.prog.follows .mixedOrders = true := by kernel_rfl
  go_region_o
  all_goals (go_wp2; go_ret; exact ⟨rfl, Lib.below_freeze (Below.drew (Below.refl B w)) (p := ⟨k, 0, none⟩) hbg _⟩)
set_option maxRecDepth 100000 in
set_option maxHeartbeats 1000000 in
theorem wdone_calls (B g : Nat) (x : Sp.W) (w : World) (h : IsWr B g x w) (h0 : x.2 = 0 → x.1 ≠ []) :
    Calls Tryd.prog 40 #[.pointer (some ⟨g, 0, none⟩)] w fun e' w' => e' = .returned (.tuple #[.string (strOf (Sp.wdone x).1), .int .i64 (Sp.wdone x).2]) ∧ Below B w w' := by
  obtain ⟨c2, f2⟩ := h.cell
  by_cases h1 : x.2 = 0
  · have F := Lib.hid (show Sp.wdone x = (x.1, 0) from if_pos h1)
    have C := Lib.hid (bstr_calls B g x.1 x.2 w h (h0 h1))
    rw [h1] at c2
    clear h h0 h1
    go_enter Tryd.func40, Tryd.ntmps40
    go_wp2_with (go_at_call 66; refine C.out.mono ?_; rintro e w1 ⟨rfl, hb1⟩)
    go_ret2
    exact ⟨by rw [F.out]; rfl, hb1⟩
  · have F := Lib.hid (show Sp.wdone x = ([], x.2) from if_neg h1)
    have e1 : (x.2 == 0) = false := by simpa using h1
    clear h h0 h1
    go_enter Tryd.func40, Tryd.ntmps40
    go_wp2_with fail
    have mixed : Tryd.prog.follows .mixedOrders = true := by kernel_rfl
    go_region_o
    all_goals
      go_wp2_with fail
      go_ret2
      exact ⟨by rw [F.out]; rfl, (Below.refl _ _).drew⟩
end Go.Proofs.YtbjdgiocehoaiaaDoor
