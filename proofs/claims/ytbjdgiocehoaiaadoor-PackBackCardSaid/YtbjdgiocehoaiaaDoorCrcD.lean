/- Walks: a sealed text that is opened. -/
import Derived.Test.YtbjdgiocehoaiaaDoorCrcC
namespace Go.Proofs.YtbjdgiocehoaiaaDoor
open Go.RowKit
/-- What Open hands back. -/
def openV (l : List UInt8) : Value := match Sp.opened l with
  | some x => .tuple #[.string (strOf x), .bool true]
  | none => .tuple #[.string (strOf []), .bool false]
set_option maxRecDepth 100000 in
set_option maxHeartbeats 1000000 in
theorem open_calls (s : ByteArray) (w : World) (hs : s.size < 4294967200) :
    Calls Tryd.prog 71 #[.string s] w fun e w' => e = .returned (openV s.data.toList) ∧ Below w.heap.size w w' := by
  by_cases h4 : s.size < 4
  · have e1 : decide ((s.size : Int) < 4) = true := by simp; omega
    have F := Lib.hid (show openV s.data.toList = .tuple #[.string (strOf []), .bool false] by unfold openV Sp.opened; rw [if_pos (by simp; omega)])
    go_enter Tryd.func71, Tryd.ntmps71
    go_wp2_with fail
    go_ret2
    exact ⟨by rw [F.out]; rfl, Below.refl _ _⟩
  · have e1 : decide ((s.size : Int) < 4) = false := by simp; omega
    have hx := extract_take s (s.size - 4)
    have C := Lib.hid (seal_calls (strOf (s.data.toList.take (s.size - 4))) w (by rw [strOf_size]; simp; omega))
    rw [strOf_data] at C
    by_cases hq : Sp.sealed (s.data.toList.take (s.size - 4)) = s.data.toList
    · have F := Lib.hid (show openV s.data.toList = .tuple #[.string (strOf (s.data.toList.take (s.size - 4))), .bool true] by
        unfold openV Sp.opened
        rw [if_neg (by simp; omega), show s.data.toList.length - 4 = s.size - 4 by simp, if_pos hq])
      have e2 : ((strOf (Sp.sealed (s.data.toList.take (s.size - 4)))).toList == s.toList) = true := by rw [strOf_toList, toList_data, hq]; simp
      clear hq
      go_enter Tryd.func71, Tryd.ntmps71
      go_wp2_with (go_at_call 41; refine C.out.mono ?_; rintro e w1 ⟨rfl, hb⟩)
      go_ret2
      exact ⟨by first | (rw [F.out]; rfl) | (rw [F.out, ← hx]; rfl), hb⟩
    · have F := Lib.hid (show openV s.data.toList = .tuple #[.string (strOf []), .bool false] by
        unfold openV Sp.opened
        rw [if_neg (by simp; omega), show s.data.toList.length - 4 = s.size - 4 by simp, if_neg hq])
      have e2 : ((strOf (Sp.sealed (s.data.toList.take (s.size - 4)))).toList == s.toList) = false := by rw [strOf_toList, toList_data, str_beq, decide_eq_false hq]
      clear hq
      go_enter Tryd.func71, Tryd.ntmps71
      go_wp2_with (go_at_call 41; refine C.out.mono ?_; rintro e w1 ⟨rfl, hb⟩)
      go_ret2
      exact ⟨by first | (rw [F.out]; rfl) | (rw [F.out, ← hx]; rfl), hb⟩
set_option maxRecDepth 100000 in
set_option maxHeartbeats 1000000 in
theorem ropen_calls (s : ByteArray) (w : World) (hs : s.size < 4294967200) :
    Calls Tryd.prog 54 #[.string s] w fun e w' => e = .returned (openV s.data.toList) ∧ Below w.heap.size w w' := by
  by_cases h4 : s.size < 4
  · have e1 : decide ((s.size : Int) - 4 < 0) = true := by simp; omega
    have F := Lib.hid (show openV s.data.toList = .tuple #[.string (strOf []), .bool false] by unfold openV Sp.opened; rw [if_pos (by simp; omega)])
    go_enter Tryd.func54, Tryd.ntmps54
    go_wp2_with fail
    go_ret2
    exact ⟨by rw [F.out]; rfl, Below.refl _ _⟩
  · have e1 : decide ((s.size : Int) - 4 < 0) = false := by simp; omega
    have hx := extract_take s (s.size - 4)
    have C := Lib.hid (rseal_calls (strOf (s.data.toList.take (s.size - 4))) w (by rw [strOf_size]; simp; omega))
    rw [strOf_data] at C
    by_cases hq : Sp.sealed (s.data.toList.take (s.size - 4)) = s.data.toList
    · have F := Lib.hid (show openV s.data.toList = .tuple #[.string (strOf (s.data.toList.take (s.size - 4))), .bool true] by
        unfold openV Sp.opened
        rw [if_neg (by simp; omega), show s.data.toList.length - 4 = s.size - 4 by simp, if_pos hq])
      have e2 : ((strOf (Sp.sealed (s.data.toList.take (s.size - 4)))).toList == s.toList) = true := by rw [strOf_toList, toList_data, hq]; simp
      clear hq
      go_enter Tryd.func54, Tryd.ntmps54
      go_wp2_with (go_at_call 48; refine C.out.mono ?_; rintro e w1 ⟨rfl, hb⟩)
      go_ret2
      exact ⟨by first | (rw [F.out]; rfl) | (rw [F.out, ← hx]; rfl), hb⟩
    · have F := Lib.hid (show openV s.data.toList = .tuple #[.string (strOf []), .bool false] by
        unfold openV Sp.opened
        rw [if_neg (by simp; omega), show s.data.toList.length - 4 = s.size - 4 by simp, if_neg hq])
      have e2 : ((strOf (Sp.sealed (s.data.toList.take (s.size - 4)))).toList == s.toList) = false := by rw [strOf_toList, toList_data, str_beq, decide_eq_false hq]
      clear hq
      go_enter Tryd.func54, Tryd.ntmps54
      go_wp2_with (go_at_call 48; refine C.out.mono ?_; rintro e w1 ⟨rfl, hb⟩)
      go_ret2
      exact ⟨by first | (rw [F.out]; rfl) | (rw [F.out, ← hx]; rfl), hb⟩
end Go.Proofs.YtbjdgiocehoaiaaDoor
