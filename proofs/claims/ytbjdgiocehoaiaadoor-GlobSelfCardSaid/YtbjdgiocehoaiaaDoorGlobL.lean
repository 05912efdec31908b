/- Walks: the statements of chapter 44. -/
import Derived.Test.YtbjdgiocehoaiaaDoorGlobS
namespace Go.Proofs.YtbjdgiocehoaiaaDoor
open Go.RowKit

/-- The library's variable that a search in a text asks. -/
def MaxAt (w : World) : Prop := ∃ m, w.cell? ⟨0, 0, none⟩ = some (.int .i64 m)

theorem gmatch_const (p s : List UInt8) (v : Bool) (hv : Sp.gmatch p s = v) (hp : p.length ≤ 900) (w : World) (hsh : MaxAt w) : Calls Tryd.prog 14 #[.string ⟨p.toArray⟩, .string ⟨s.toArray⟩] w fun e w' => e = .returned (.bool v) ∧ Below w.heap.size w w' := by
  have := gmatch_calls ⟨p.toArray⟩ ⟨s.toArray⟩ w hsh (by simpa [ByteArray.size] using hp)
  simp only [hv] at this
  exact this

set_option maxHeartbeats 1000000 in
theorem awake44_calls (w : World) (hsh : MaxAt w) : Calls Tryd.prog 9 #[] w fun e w' => e = .returned (.bool true) ∧ Below w.heap.size w w' := by
  go_enter Tryd.func9, Tryd.ntmps9
  go_wp2_with fail
  refine (gmatch_const [97, 47, 42, 42, 47, 99, 42] [97, 47, 99] true (by decide +kernel) (by decide) w hsh).mono ?_
  rintro e w1 ⟨rfl, b1⟩
  go_wp2_with fail
  refine (gmatch_const [97, 47, 42, 42, 47, 99, 42] [97, 47, 120, 47, 121, 47, 99, 100] true (by decide +kernel) (by decide) w1 (max_kept hsh b1)).mono ?_
  rintro e w2 ⟨rfl, b2⟩
  have B2 := keep_below b1 b2
  go_wp2_with fail
  refine (gmatch_const [97, 47, 42, 42, 47, 99, 42] [97, 47, 120] false (by decide +kernel) (by decide) w2 (max_kept hsh B2)).mono ?_
  rintro e w3 ⟨rfl, b3⟩
  have B3 := keep_below B2 b3
  go_wp2_with fail
  refine (gmatch_const [63, 46, 98] [97, 46, 98] true (by decide +kernel) (by decide) w3 (max_kept hsh B3)).mono ?_
  rintro e w4 ⟨rfl, b4⟩
  have B4 := keep_below B3 b4
  go_wp2
  go_ret
  exact ⟨rfl, B4⟩

set_option maxHeartbeats 1000000 in
theorem checks_calls (p : ByteArray) (w : World) (hsh : MaxAt w) : Calls Tryd.prog 3 #[.string p] w fun e w' => e = .returned (.bool true) ∧ Below w.heap.size w w' := by
  by_cases h : 400 < p.size
  · have e1 : decide ((400 : Int) < (p.size : Int)) = true := decide_eq_true (by omega)
    clear h
    go_enter Tryd.func3, Tryd.ntmps3
    go_wp2_with fail
    refine (awake44_calls w hsh).mono ?_
    rintro e w1 ⟨rfl, b1⟩
    go_wp2
    go_ret
    exact ⟨rfl, b1⟩
  · have e1 : decide ((400 : Int) < (p.size : Int)) = false := decide_eq_false (by omega)
    go_enter Tryd.func3, Tryd.ntmps3
    go_wp2_with fail
    refine (gcheck_calls p w hsh (by omega)).mono ?_
    rintro e w1 ⟨rfl, b1⟩
    go_wp2_with fail
    refine (rgcheck_calls p w1 (by omega)).mono ?_
    rintro e w2 ⟨rfl, b2⟩
    have B2 := keep_below b1 b2
    go_wp2_with fail
    refine (awake44_calls w2 (max_kept hsh B2)).mono ?_
    rintro e w3 ⟨rfl, b3⟩
    go_wp2
    go_ret
    exact ⟨rfl, keep_below B2 b3⟩

set_option maxHeartbeats 1000000 in
theorem matches_calls (p s : ByteArray) (w : World) (hsh : MaxAt w) : Calls Tryd.prog 4 #[.string p, .string s] w fun e w' => e = .returned (.bool true) ∧ Below w.heap.size w w' := by
  by_cases h : 400 < p.size
  · have e1 : decide ((400 : Int) < (p.size : Int)) = true := decide_eq_true (by omega)
    clear h
    go_enter Tryd.func4, Tryd.ntmps4
    go_wp2_with fail
    refine (awake44_calls w hsh).mono ?_
    rintro e w1 ⟨rfl, b1⟩
    go_wp2
    go_ret
    exact ⟨rfl, b1⟩
  have e1 : decide ((400 : Int) < (p.size : Int)) = false := decide_eq_false (by omega)
  by_cases h2 : 200 < s.size
  · have e2 : decide ((200 : Int) < (s.size : Int)) = true := decide_eq_true (by omega)
    clear h h2
    go_enter Tryd.func4, Tryd.ntmps4
    go_wp2_with fail
    refine (awake44_calls w hsh).mono ?_
    rintro e w1 ⟨rfl, b1⟩
    go_wp2
    go_ret
    exact ⟨rfl, b1⟩
  have e2 : decide ((200 : Int) < (s.size : Int)) = false := decide_eq_false (by omega)
  obtain ⟨u, hu⟩ : ∃ u, Sp.gpiece p.data.toList s.data.toList = u := ⟨_, rfl⟩
  obtain ⟨v, hv⟩ : ∃ v, Sp.gmatch p.data.toList s.data.toList = v := ⟨_, rfl⟩
  have A1 := Lib.hid (gpiece_calls p s w hsh (by omega) (by omega))
  have A2 := Lib.hid fun W => rpm_calls p s W (by omega) (by omega)
  have A3 := Lib.hid fun W hW => gmatch_calls p s W hW (by omega)
  have A4 := Lib.hid fun W => rlm_calls p s W (by omega) (by omega)
  simp only [hu] at A1 A2
  simp only [hv] at A3 A4
  clear hu hv h h2
  go_enter Tryd.func4, Tryd.ntmps4
  go_wp2_with fail
  refine A1.out.mono ?_
  rintro e w1 ⟨rfl, b1⟩
  go_wp2_with fail
  refine (A2.out w1).mono ?_
  rintro e w2 ⟨rfl, b2⟩
  have B2 := keep_below b1 b2
  go_wp2_with fail
  refine (A3.out w2 (max_kept hsh B2)).mono ?_
  rintro e w3 ⟨rfl, b3⟩
  have B3 := keep_below B2 b3
  go_wp2_with fail
  refine (A4.out w3).mono ?_
  rintro e w4 ⟨rfl, b4⟩
  have B4 := keep_below B3 b4
  go_wp2_with fail
  refine (awake44_calls w4 (max_kept hsh B4)).mono ?_
  rintro e w5 ⟨rfl, b5⟩
  go_wp2
  go_ret
  exact ⟨rfl, keep_below B4 b5⟩
end Go.Proofs.YtbjdgiocehoaiaaDoor
