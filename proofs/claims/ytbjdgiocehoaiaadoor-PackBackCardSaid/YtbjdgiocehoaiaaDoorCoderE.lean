/- Walks: the reference's reader. -/
import Derived.Test.YtbjdgiocehoaiaaDoorCoderD
namespace Go.Proofs.YtbjdgiocehoaiaaDoor
open Go.RowKit
set_option maxRecDepth 100000 in
set_option maxHeartbeats 2000000 in
theorem rrdone_calls (g : Nat) (x : Sp.R) (w : World) (h : isRR w g x) : Calls Tryd.prog 57 #[.pointer (some ⟨g, 0, none⟩)] w fun e w' => e = .returned (.int .i64 (Sp.rdone x)) ∧ w = w' := by
  have c0 := (h.cell 0).trans rfl
  have c1 := (h.cell 1).trans rfl
  clear h
  by_cases h1 : x.2 = 0
  · rw [h1] at c1
    by_cases h0 : x.1 = []
    · have F := Lib.hid (show Sp.rdone x = 0 by unfold Sp.rdone; rw [if_neg (by simpa using h1), if_pos h0])
      have e2 : (strOf x.1).toList = [] := by rw [strOf_toList, h0]
      clear h1 h0
      go_enter Tryd.func57, Tryd.ntmps57
      go_wp2_with fail
      go_ret
      exact ⟨by rw [F.out]; rfl, rfl⟩
    · have F := Lib.hid (show Sp.rdone x = 6 by unfold Sp.rdone; rw [if_neg (by simpa using h1), if_neg h0])
      have e2 : (strOf x.1).toList.isEmpty = false := by rw [strOf_toList]; simpa using h0
      clear h1 h0
      go_enter Tryd.func57, Tryd.ntmps57
      go_wp2_with fail
      go_ret
      exact ⟨by rw [F.out]; rfl, rfl⟩
  · have F := Lib.hid (show Sp.rdone x = x.2 by unfold Sp.rdone; rw [if_pos h1])
    have e1 : (x.2 == 0) = false := by simpa using h1
    have e2 : (x.2 != 0) = true := by simpa using h1
    clear h1
    go_enter Tryd.func57, Tryd.ntmps57
    go_wp2_with fail
    go_ret
    exact ⟨by rw [F.out]; rfl, rfl⟩
set_option maxRecDepth 100000 in
set_option maxHeartbeats 2000000 in
theorem rrnum_calls (g : Nat) (most : Int) (x : Sp.R) (w : World) (h : isRR w g x) (hx : x.1.length < 4294967200) :
    Calls Tryd.prog 55 #[.pointer (some ⟨g, 0, none⟩), .int .i64 most] w fun e w' => e = .returned (.int .i64 (Sp.rnum most x).1) ∧ isRR w' g (Sp.rnum most x).2 ∧ Only g w w' := by
  have c0 := (h.cell 0).trans rfl
  have c1 := (h.cell 1).trans rfl
  have f0 := h.frozen 0
  have f1 := h.frozen 1
  have HH := Lib.hid h
  by_cases h1 : x.2 = 0
  · rw [h1] at c1
    have T := Lib.hid (rtake_calls (strOf x.1) w (by rw [strOf_size]; exact hx))
    rw [strOf_data] at T
    have F := Lib.hid (show Sp.rnum most x = if (Sp.pnum most x.1).2.2 ≠ 0 then (0, (x.1, (Sp.pnum most x.1).2.2)) else ((Sp.pnum most x.1).1, (x.1.drop (Sp.pnum most x.1).2.1, 0)) by unfold Sp.rnum Sp.rpiece; rw [if_neg (by simpa using h1)])
    have hq : Sp.pnum most x.1 = ((Sp.take x.1).1, (Sp.take x.1).2.1, if (Sp.take x.1).2.2 = 0 ∧ most < (Sp.take x.1).1 then 2 else (Sp.take x.1).2.2) := rfl
    have hb := Sp.take_bound x.1
    obtain ⟨t, ht⟩ : ∃ t, t = Sp.take x.1 := ⟨_, rfl⟩
    rw [← ht] at hq T hb
    clear ht h
    unfold takeV at T
    have s1 : (strOf x.1).size = x.1.length := strOf_size _
    by_cases h0 : t.2.2 = 0
    · have b0 : (t.2.2 == 0) = true := by simpa using h0
      by_cases h2 : most < (t.1 : Int)
      · rw [if_pos ⟨h0, h2⟩] at hq
        rw [hq] at F
        simp only [] at F
        have b1 : decide (most < (t.1 : Int)) = true := decide_eq_true h2
        have F2 := Lib.hid (show Sp.rnum most x = (0, (x.1, 2)) from F.out.trans (if_pos (by decide)))
        clear h0 h1 h2 F hq
        go_enter Tryd.func55, Tryd.ntmps55
        go_wp2_with (go_at_call 78; refine T.out.mono ?_; rintro e w1 ⟨rfl, rfl⟩)
        go_ret
        exact ⟨by rw [F2.out]; rfl, by rw [F2.out]; exact (isRR.set x _ g HH.out x.1 2).2, Only.set _ _ _ _⟩
      · rw [if_neg (fun a => h2 a.2)] at hq
        rw [hq] at F
        simp only [] at F
        have b1 : decide (most < (t.1 : Int)) = false := decide_eq_false h2
        have F2 := Lib.hid (show Sp.rnum most x = (t.1, (x.1.drop t.2.1, 0)) from F.out.trans (if_neg (by simpa using h0)))
        have HS := Lib.hid (isRR.set x w g HH.out (x.1.drop t.2.1) 0).1
        rw [h1] at HS
        have s2 := ext_drop x.1 t.2.1
        clear h1 h2 F hq HH
        rw [h0] at T
        clear h0 b0
        go_enter Tryd.func55, Tryd.ntmps55
        go_wp2_with (go_at_call 78; refine T.out.mono ?_; rintro e w1 ⟨rfl, rfl⟩)
        go_ret
        exact ⟨by rw [F2.out]; rfl, by rw [F2.out]; exact HS.out, Only.set _ _ _ _⟩
    · rw [if_neg (fun a => h0 a.1)] at hq
      rw [hq] at F
      simp only [] at F
      have F2 := Lib.hid (show Sp.rnum most x = (0, (x.1, t.2.2)) from F.out.trans (if_pos h0))
      have b0 : (t.2.2 == 0) = false := by simpa using h0
      have b1 : (t.2.2 != 0) = true := by simpa using h0
      clear h0 h1 F hq
      go_enter Tryd.func55, Tryd.ntmps55
      go_wp2_with (go_at_call 78; refine T.out.mono ?_; rintro e w1 ⟨rfl, rfl⟩)
      go_ret
      exact ⟨by rw [F2.out]; rfl, by rw [F2.out]; exact (isRR.set x _ g HH.out x.1 t.2.2).2, Only.set _ _ _ _⟩
  · have F := Lib.hid (show Sp.rnum most x = (0, x) by unfold Sp.rnum Sp.rpiece; rw [if_pos h1])
    have b2 : (x.2 == 0) = false := by simpa using h1
    have b3 : (x.2 != 0) = true := by simpa using h1
    clear h1 h
    go_enter Tryd.func55, Tryd.ntmps55
    go_wp2_with fail
    go_ret
    exact ⟨by rw [F.out]; rfl, by rw [F.out]; exact HH.out, Only.refl _ _⟩
set_option maxRecDepth 100000 in
set_option maxHeartbeats 2000000 in
theorem rrtext_calls (g : Nat) (most : Int) (x : Sp.R) (w : World) (h : isRR w g x) (hx : x.1.length < 4294967200) :
    Calls Tryd.prog 56 #[.pointer (some ⟨g, 0, none⟩), .int .i64 most] w fun e w' => e = .returned (.string (strOf (Sp.rtext most x).1)) ∧ isRR w' g (Sp.rtext most x).2 ∧ Only g w w' := by
  have c0 := (h.cell 0).trans rfl
  have N := Lib.hid (rrnum_calls g most x w h hx)
  have F := Lib.hid (Sp.rtext_eq most x)
  have hln := Sp.rnum_len most x
  have hb : (Sp.rnum most x).1 ≤ 1073741824 := by
    unfold Sp.rnum Sp.rpiece; split
    · simp
    · split
      · simp
      · exact (Sp.pnum_bound most x.1).1
  obtain ⟨y, hy⟩ : ∃ y, y = Sp.rnum most x := ⟨_, rfl⟩
  rw [← hy] at N F hln hb
  clear hy h
  by_cases h1 : y.2.2 = 0
  · rw [if_neg (by simpa using h1)] at F
    have HL := Lib.hid h1
    have s1 : (strOf y.2.1).size = y.2.1.length := strOf_size _
    by_cases h2 : y.2.1.length < y.1
    · rw [if_pos h2] at F
      have b1 : decide ((y.2.1.length : Int) < (y.1 : Int)) = true := by rw [decide_eq_true_iff]; omega
      clear h1
      go_enter Tryd.func56, Tryd.ntmps56
      go_wp2_with (go_at_call 55; refine N.out.mono ?_; rintro e w1 ⟨rfl, hr1, ho1⟩; have d0 := (hr1.cell 0).trans rfl; have d1 : w1.cell? ⟨g, 1, none⟩ = some (.int .i64 0) := (hr1.cell 1).trans (by show some (Value.int .i64 y.2.2) = _; rw [HL.out]); have f0 := hr1.frozen 0; have f1 := hr1.frozen 1; clear c0)
      go_ret
      refine ⟨by rw [F.out]; rfl, ?_, (ho1.trans (Only.set _ _ _ _)).trans (Only.set _ _ _ _)⟩
      rw [F.out]
      exact (isRR.set (x.1, y.2.2) _ g (isRR.set y.2 _ g hr1 x.1 0).1 x.1 5).2
    · rw [if_neg h2] at F
      have b1 : decide ((y.2.1.length : Int) < (y.1 : Int)) = false := by rw [decide_eq_false_iff_not]; omega
      have s2 := ext_drop y.2.1 y.1
      have s3 := ext_take y.2.1 y.1
      clear h1
      go_enter Tryd.func56, Tryd.ntmps56
      go_wp2_with (go_at_call 55; refine N.out.mono ?_; rintro e w1 ⟨rfl, hr1, ho1⟩; have d0 := (hr1.cell 0).trans rfl; have d1 : w1.cell? ⟨g, 1, none⟩ = some (.int .i64 0) := (hr1.cell 1).trans (by show some (Value.int .i64 y.2.2) = _; rw [HL.out]); have f0 := hr1.frozen 0; have f1 := hr1.frozen 1; clear c0)
      go_ret
      refine ⟨by rw [F.out]; rfl, ?_, ho1.trans (Only.set _ _ _ _)⟩
      rw [F.out]
      have := (isRR.set y.2 _ g hr1 (y.2.1.drop y.1) 0).1
      rwa [HL.out] at this
  · rw [if_pos h1] at F
    have b2 : (y.2.2 == 0) = false := by simpa using h1
    have b3 : (y.2.2 != 0) = true := by simpa using h1
    clear h1
    go_enter Tryd.func56, Tryd.ntmps56
    go_wp2_with (go_at_call 55; refine N.out.mono ?_; rintro e w1 ⟨rfl, hr1, ho1⟩; have d0 := (hr1.cell 0).trans rfl; have d1 := (hr1.cell 1).trans rfl; have f0 := hr1.frozen 0; have f1 := hr1.frozen 1; clear c0)
    go_ret
    exact ⟨by rw [F.out]; rfl, by rw [F.out]; exact hr1, ho1⟩
end Go.Proofs.YtbjdgiocehoaiaaDoor
