/- Walks: a coder.Reader. -/
import Derived.Test.YtbjdgiocehoaiaaDoorCoderR
import Derived.Test.YtbjdgiocehoaiaaDoorSpec10
namespace Go.Proofs.YtbjdgiocehoaiaaDoor
open Go.RowKit
/-- A reader in memory; the reference's. -/
abbrev isRd (w : World) (g : Nat) (x : Sp.R) : Prop := isBlk w g 107 #[.string (strOf x.1), .int .i64 x.2]
abbrev isRR (w : World) (g : Nat) (x : Sp.R) : Prop := isBlk w g 76 #[.string (strOf x.1), .int .i64 x.2]
theorem isRd.set (x : Sp.R) (w : World) (g : Nat) (h : isRd w g x) (l : List UInt8) (e : Int) : isRd (w.setCell ⟨g, 0, none⟩ (.string (strOf l))) g (l, x.2) ∧ isRd (w.setCell ⟨g, 1, none⟩ (.int .i64 e)) g (x.1, e) := ⟨h.put 0 _ rfl, h.put 1 _ rfl⟩
theorem isRR.set (x : Sp.R) (w : World) (g : Nat) (h : isRR w g x) (l : List UInt8) (e : Int) : isRR (w.setCell ⟨g, 0, none⟩ (.string (strOf l))) g (l, x.2) ∧ isRR (w.setCell ⟨g, 1, none⟩ (.int .i64 e)) g (x.1, e) := ⟨h.put 0 _ rfl, h.put 1 _ rfl⟩
theorem ext_drop (l : List UInt8) (n : Nat) : (strOf l).extract n l.length = strOf (l.drop n) := by
  have := extract_drop (strOf l) n
  rwa [strOf_size, strOf_data] at this
theorem ext_take (l : List UInt8) (n : Nat) : (strOf l).extract 0 n = strOf (l.take n) := by
  have := extract_take (strOf l) n
  rwa [strOf_data] at this
theorem ext_mid (l : List UInt8) (k n : Nat) : (strOf l).extract k (k + n) = strOf ((l.drop k).take n) := by
  apply ByteArray.ext
  apply Array.ext'
  rw [ByteArray.data_extract]
  simp only [strOf, Array.toList_extract, List.extract_eq_take_drop, Nat.add_sub_cancel_left]
set_option maxRecDepth 100000 in
set_option maxHeartbeats 2000000 in
theorem rerr_calls (g : Nat) (x : Sp.R) (w : World) (h : isRd w g x) : Calls Tryd.prog 75 #[.pointer (some ⟨g, 0, none⟩)] w fun e w' => e = .returned (.int .i64 x.2) ∧ w = w' := by
  have c1 := (h.cell 1).trans rfl
  clear h
  go_enter Tryd.func75, Tryd.ntmps75
  go_wp2_with fail
  go_ret
  exact ⟨rfl, rfl⟩
set_option maxRecDepth 100000 in
set_option maxHeartbeats 2000000 in
theorem rdone_calls (g : Nat) (x : Sp.R) (w : World) (h : isRd w g x) : Calls Tryd.prog 76 #[.pointer (some ⟨g, 0, none⟩)] w fun e w' => e = .returned (.int .i64 (Sp.rdone x)) ∧ w = w' := by
  have c0 := (h.cell 0).trans rfl
  have C := Lib.hid (rerr_calls g x w h)
  clear h
  by_cases h1 : x.2 = 0
  · rw [h1] at C
    by_cases h0 : x.1 = []
    · have F := Lib.hid (show Sp.rdone x = 0 by unfold Sp.rdone; rw [if_neg (by simpa using h1), if_pos h0])
      have e2 : (strOf x.1).toList = [] := by rw [strOf_toList, h0]
      clear h1 h0
      go_enter Tryd.func76, Tryd.ntmps76
      go_wp2_with (go_at_call 75; refine C.out.mono ?_; rintro e w1 ⟨rfl, rfl⟩)
      go_ret
      exact ⟨by rw [F.out]; rfl, rfl⟩
    · have F := Lib.hid (show Sp.rdone x = 6 by unfold Sp.rdone; rw [if_neg (by simpa using h1), if_neg h0])
      have e2 : (strOf x.1).toList.isEmpty = false := by rw [strOf_toList]; simpa using h0
      clear h1 h0
      go_enter Tryd.func76, Tryd.ntmps76
      go_wp2_with (go_at_call 75; refine C.out.mono ?_; rintro e w1 ⟨rfl, rfl⟩)
      go_ret
      exact ⟨by rw [F.out]; rfl, rfl⟩
  · have F := Lib.hid (show Sp.rdone x = x.2 by unfold Sp.rdone; rw [if_pos h1])
    have e1 : (x.2 == 0) = false := by simpa using h1
    have e2 : (x.2 != 0) = true := by simpa using h1
    clear h1
    go_enter Tryd.func76, Tryd.ntmps76
    go_wp2_with (go_at_call 75; refine C.out.mono ?_; rintro e w1 ⟨rfl, rfl⟩)
    go_ret
    exact ⟨by rw [F.out]; rfl, rfl⟩
set_option maxRecDepth 100000 in
set_option maxHeartbeats 2000000 in
theorem rnew_calls (s : ByteArray) (w : World) : Calls Tryd.prog 72 #[.string s] w fun e w' => ∃ g, w.heap.size ≤ g ∧ e = .returned (.pointer (some ⟨g, 0, none⟩)) ∧ isRd w' g (s.data.toList, 0) ∧ Below w.heap.size w w' := by
  have hs : strOf s.data.toList = s := strOf_self s
  go_enter Tryd.func72, Tryd.ntmps72
  go_wp2_with fail
  go_ret
  exact ⟨_, Nat.le_refl _, rfl, by unfold isRd; rw [hs]; exact heap_alloc_new _ _, (Below.refl _ _).alloc (Nat.le_refl _) _⟩
/-- What a number's function hands back. -/
def numV (t : Nat × Nat × Int) : Value := .tuple #[.int .i64 t.1, .int .i64 t.2.1, .int .i64 t.2.2]
set_option maxRecDepth 100000 in
set_option maxHeartbeats 2000000 in
theorem number1_calls (l : List UInt8) (most : Int) (m : Nat) (w : World) (hm : isBlk w m 3 #[.int .i64 most]) (hl : l.length < 4294967200) :
    Calls Tryd.prog 101 #[.string (strOf l), .pointer (some ⟨m, 0, none⟩)] w fun e w' => e = .returned (numV (Sp.pnum most l)) ∧ w = w' := by
  have c0 := (hm.cell 0).trans rfl
  have T := Lib.hid (ctake_calls (strOf l) w (by rw [strOf_size]; exact hl))
  rw [strOf_data] at T
  have F := Lib.hid (show Sp.pnum most l = ((Sp.take l).1, (Sp.take l).2.1, if (Sp.take l).2.2 = 0 ∧ most < (Sp.take l).1 then 2 else (Sp.take l).2.2) from rfl)
  obtain ⟨t, ht⟩ : ∃ t, t = Sp.take l := ⟨_, rfl⟩
  rw [← ht] at T F
  clear ht hm hl
  unfold takeV at T
  by_cases h0 : t.2.2 = 0
  · have b0 : (t.2.2 == 0) = true := by simpa using h0
    by_cases h1 : most < (t.1 : Int)
    · rw [if_pos ⟨h0, h1⟩] at F
      have b1 : decide (most < (t.1 : Int)) = true := decide_eq_true h1
      clear h0 h1
      go_enter Tryd.func101, Tryd.ntmps101
      go_wp2_with (go_at_call 102; refine T.out.mono ?_; rintro e w1 ⟨rfl, rfl⟩)
      go_ret3
      exact ⟨by rw [F.out]; rfl, rfl⟩
    · rw [if_neg (fun h => h1 h.2)] at F
      have b1 : decide (most < (t.1 : Int)) = false := decide_eq_false h1
      clear h0 h1
      go_enter Tryd.func101, Tryd.ntmps101
      go_wp2_with (go_at_call 102; refine T.out.mono ?_; rintro e w1 ⟨rfl, rfl⟩)
      go_ret3
      exact ⟨by rw [F.out]; rfl, rfl⟩
  · rw [if_neg (fun h => h0 h.1)] at F
    have b0 : (t.2.2 == 0) = false := by simpa using h0
    clear h0
    go_enter Tryd.func101, Tryd.ntmps101
    go_wp2_with (go_at_call 102; refine T.out.mono ?_; rintro e w1 ⟨rfl, rfl⟩)
    go_ret3
    exact ⟨by rw [F.out]; rfl, rfl⟩
set_option maxRecDepth 100000 in
set_option maxHeartbeats 2000000 in
theorem rtake_int (g : Nat) (bs : Array Value) (p : Nat × Nat × Int) (x : Sp.R) (w : World) (h : isRd w g x) (hp : p.2.1 ≤ x.1.length)
    (hc : x.2 = 0 → Calls Tryd.prog 101 (#[.string (strOf x.1)] ++ bs) w fun e w' => e = .returned (.tuple #[(fun n : Nat => Value.int .i64 n) p.1, .int .i64 p.2.1, .int .i64 p.2.2]) ∧ Below w.heap.size w w') :
    Calls Tryd.prog 88 #[.pointer (some ⟨g, 0, none⟩), .func (.func 101) #[] bs] w fun e w' => e = .returned ((fun n : Nat => Value.int .i64 n) (Sp.rpiece 0 p x).1) ∧ isRd w' g (Sp.rpiece 0 p x).2 ∧ Only g w w' := by
  have c0 := (h.cell 0).trans rfl
  have c1 := (h.cell 1).trans rfl
  have R := Lib.hid (rerr_calls g x w h)
  by_cases h1 : x.2 = 0
  · have C := Lib.hid (hc h1)
    rw [h1] at R
    by_cases h2 : p.2.2 = 0
    · have F := Lib.hid (show Sp.rpiece 0 p x = (p.1, (x.1.drop p.2.1, 0)) by unfold Sp.rpiece; rw [if_neg (by simpa using h1), if_neg (by simpa using h2)])
      have HH := Lib.hid h
      have L := Lib.hid h1
      rw [h2] at C
      have s1 : (strOf x.1).size = x.1.length := strOf_size _
      have s2 := ext_drop x.1 p.2.1
      clear h1 h2 hc h
      go_enter Tryd.func88, Tryd.ntmps88
      go_wp2_with (first
        | (go_at_call 75; refine R.out.mono ?_; rintro e w1 ⟨rfl, rfl⟩)
        | (go_at_call 101; refine C.out.mono ?_; rintro e w1 ⟨rfl, hb1⟩; have d0 := ((HH.out.below hb1).cell 0).trans rfl; have f0 := (HH.out.below hb1).frozen 0; clear c0 c1))
      go_ret
      refine ⟨by rw [F.out]; rfl, ?_, (Only.of_below g hb1).trans (Only.set _ _ _ _)⟩
      rw [F.out]
      have := (isRd.set x _ g (HH.out.below hb1) (x.1.drop p.2.1) 0).1
      rwa [L.out] at this
    · have F := Lib.hid (show Sp.rpiece 0 p x = (0, (x.1, p.2.2)) by unfold Sp.rpiece; rw [if_neg (by simpa using h1), if_pos h2])
      have HH := Lib.hid h
      have b2 : (p.2.2 == 0) = false := by simpa using h2
      have b3 : (p.2.2 != 0) = true := by simpa using h2
      clear h1 h2 hc h
      go_enter Tryd.func88, Tryd.ntmps88
      go_wp2_with (first
        | (go_at_call 75; refine R.out.mono ?_; rintro e w1 ⟨rfl, rfl⟩)
        | (go_at_call 101; refine C.out.mono ?_; rintro e w1 ⟨rfl, hb1⟩; have d0 := ((HH.out.below hb1).cell 1).trans rfl; have f0 := (HH.out.below hb1).frozen 1; clear c0 c1))
      go_ret
      refine ⟨by rw [F.out]; rfl, ?_, (Only.of_below g hb1).trans (Only.set _ _ _ _)⟩
      rw [F.out]
      exact (isRd.set x _ g (HH.out.below hb1) x.1 p.2.2).2
  · have F := Lib.hid (show Sp.rpiece 0 p x = (0, x) by unfold Sp.rpiece; rw [if_pos h1])
    have HH := Lib.hid h
    have b2 : (x.2 == 0) = false := by simpa using h1
    have b3 : (x.2 != 0) = true := by simpa using h1
    clear h1 hc h
    go_enter Tryd.func88, Tryd.ntmps88
    go_wp2_with (go_at_call 75; refine R.out.mono ?_; rintro e w1 ⟨rfl, rfl⟩)
    go_ret
    exact ⟨by rw [F.out]; rfl, by rw [F.out]; exact HH.out, Only.refl _ _⟩
theorem number_calls (most : Int) (w : World) : Calls Tryd.prog 89 #[.int .i64 most] w fun e w' => e = .returned (.func (.func 101) #[] #[.pointer (some ⟨w.heap.size, 0, none⟩)]) ∧ w' = w.alloc (.cells #[.int .i64 most] 3) := by
  go_enter Tryd.func89, Tryd.ntmps89
  go_wp2_with fail
  go_ret
  exact ⟨rfl, rfl⟩
set_option maxRecDepth 100000 in
set_option maxHeartbeats 2000000 in
theorem rnumber_calls (g : Nat) (most : Int) (x : Sp.R) (w : World) (h : isRd w g x) (hx : x.1.length < 4294967200) :
    Calls Tryd.prog 73 #[.pointer (some ⟨g, 0, none⟩), .int .i64 most] w fun e w' => e = .returned (.int .i64 (Sp.rnum most x).1) ∧ isRd w' g (Sp.rnum most x).2 ∧ Only g w w' := by
  have N := Lib.hid (number_calls most w)
  have T := Lib.hid (rtake_int g #[.pointer (some ⟨w.heap.size, 0, none⟩)] (Sp.pnum most x.1) x (w.alloc (.cells #[.int .i64 most] 3)) (h.alloc _) (Sp.pnum_bound most x.1).2.2 (fun _ => (number1_calls x.1 most w.heap.size _ (heap_alloc_new _ _) hx).mono (by rintro e w' ⟨rfl, rfl⟩; exact ⟨rfl, Below.refl _ _⟩)))
  clear h
  go_enter Tryd.func73, Tryd.ntmps73
  go_wp2_with (first
    | (go_at_call 89; refine N.out.mono ?_; rintro e w1 ⟨rfl, rfl⟩)
    | (go_at_call 88; refine T.out.mono ?_; rintro e w1 ⟨rfl, hr1, ho1⟩))
  go_ret
  exact ⟨rfl, hr1, (Only.of_below g ((Below.refl _ w).alloc (Nat.le_refl _) _)).trans ho1⟩
theorem slice_mid (l : List UInt8) (k n : Nat) (h : k + n ≤ l.length) (W : World) : (Instr.slice 9 (.string (strOf l)) (some (.int .i64 (k : Int))) (some (.int .i64 ((k : Int) + (n : Int)))) none).run Tryd.prog W = .ok (.string (strOf ((l.drop k).take n))) W := by
  have s1 : (strOf l).size = l.length := strOf_size _
  rw [run_slice_string W _ (strOf l) .i64 .i64 (k : Int) ((k : Int) + (n : Int)) Tryd.underlying9 (by omega) (by omega) (by omega), ← ext_mid l k n]
  rfl
set_option maxRecDepth 100000 in
set_option maxHeartbeats 2000000 in
theorem text1_calls (l : List UInt8) (most : Int) (m : Nat) (w : World) (hm : isBlk w m 3 #[.int .i64 most]) (hl : l.length < 4294967200) :
    Calls Tryd.prog 91 #[.string (strOf l), .pointer (some ⟨m, 0, none⟩)] w fun e w' => e = .returned (.tuple #[.string (strOf (Sp.ptext most l).1), .int .i64 (Sp.ptext most l).2.1, .int .i64 (Sp.ptext most l).2.2]) ∧ Below w.heap.size w w' := by
  have c0 := (hm.cell 0).trans rfl
  have N := Lib.hid (number_calls most w)
  have T := Lib.hid (number1_calls l most w.heap.size (w.alloc (.cells #[.int .i64 most] 3)) (heap_alloc_new _ _) hl)
  have hb := Sp.pnum_bound most l
  have F := Lib.hid (show Sp.ptext most l = if (Sp.pnum most l).2.2 ≠ 0 then ([], 0, (Sp.pnum most l).2.2) else if l.length < (Sp.pnum most l).2.1 + (Sp.pnum most l).1 then ([], 0, 5) else ((l.drop (Sp.pnum most l).2.1).take (Sp.pnum most l).1, (Sp.pnum most l).2.1 + (Sp.pnum most l).1, 0) from rfl)
  obtain ⟨t, ht⟩ : ∃ t, t = Sp.pnum most l := ⟨_, rfl⟩
  rw [← ht] at T F hb
  clear ht hm
  unfold numV at T
  have s1 : (strOf l).size = l.length := strOf_size _
  by_cases h0 : t.2.2 = 0
  · rw [if_neg (by simpa using h0)] at F
    have b0 : (t.2.2 == 0) = true := by simpa using h0
    have w1 : IntKind.i64.wrap ((l.length : Int) - (t.2.1 : Int)) = (l.length : Int) - (t.2.1 : Int) := IntWalk.i64_in _ (by omega)
    by_cases h1 : l.length < t.2.1 + t.1
    · rw [if_pos h1] at F
      have b1 : decide ((l.length : Int) - (t.2.1 : Int) < (t.1 : Int)) = true := by rw [decide_eq_true_iff]; omega
      clear h0 h1
      go_enter Tryd.func91, Tryd.ntmps91
      go_wp2_with (first
        | (go_at_call 89; refine N.out.mono ?_; rintro e w1 ⟨rfl, rfl⟩)
        | (go_at_call 101; refine T.out.mono ?_; rintro e w1 ⟨rfl, rfl⟩))
      go_ret3
      exact ⟨by rw [F.out]; rfl, (Below.refl _ w).alloc (Nat.le_refl _) _⟩
    · rw [if_neg h1] at F
      have b1 : decide ((l.length : Int) - (t.2.1 : Int) < (t.1 : Int)) = false := by rw [decide_eq_false_iff_not]; omega
      have w2 : IntKind.i64.wrap ((t.2.1 : Int) + (t.1 : Int)) = (t.2.1 : Int) + (t.1 : Int) := IntWalk.i64_in _ (by omega)
      have sl := slice_mid l t.2.1 t.1 (by omega)
      clear h0
      go_enter Tryd.func91, Tryd.ntmps91
      go_wp2_with (first
        | (go_at_call 89; refine N.out.mono ?_; rintro e w1 ⟨rfl, rfl⟩)
        | (go_at_call 101; refine T.out.mono ?_; rintro e w1 ⟨rfl, rfl⟩))
      go_ret3
      exact ⟨by rw [F.out]; rfl, (Below.refl _ w).alloc (Nat.le_refl _) _⟩
  · rw [if_pos h0] at F
    have b0 : (t.2.2 == 0) = false := by simpa using h0
    have b1 : (t.2.2 != 0) = true := by simpa using h0
    clear h0
    go_enter Tryd.func91, Tryd.ntmps91
    go_wp2_with (first
      | (go_at_call 89; refine N.out.mono ?_; rintro e w1 ⟨rfl, rfl⟩)
      | (go_at_call 101; refine T.out.mono ?_; rintro e w1 ⟨rfl, rfl⟩))
    go_ret3
    exact ⟨by rw [F.out]; rfl, (Below.refl _ w).alloc (Nat.le_refl _) _⟩
set_option maxRecDepth 100000 in
set_option maxHeartbeats 2000000 in
theorem rtake_str (g : Nat) (bs : Array Value) (p : List UInt8 × Nat × Int) (x : Sp.R) (w : World) (h : isRd w g x) (hp : p.2.1 ≤ x.1.length)
    (hc : x.2 = 0 → Calls Tryd.prog 91 (#[.string (strOf x.1)] ++ bs) w fun e w' => e = .returned (.tuple #[(fun t : List UInt8 => Value.string (strOf t)) p.1, .int .i64 p.2.1, .int .i64 p.2.2]) ∧ Below w.heap.size w w') :
    Calls Tryd.prog 90 #[.pointer (some ⟨g, 0, none⟩), .func (.func 91) #[] bs] w fun e w' => e = .returned ((fun t : List UInt8 => Value.string (strOf t)) (Sp.rpiece [] p x).1) ∧ isRd w' g (Sp.rpiece [] p x).2 ∧ Only g w w' := by
  have c0 := (h.cell 0).trans rfl
  have c1 := (h.cell 1).trans rfl
  have R := Lib.hid (rerr_calls g x w h)
  by_cases h1 : x.2 = 0
  · have C := Lib.hid (hc h1)
    rw [h1] at R
    by_cases h2 : p.2.2 = 0
    · have F := Lib.hid (show Sp.rpiece [] p x = (p.1, (x.1.drop p.2.1, 0)) by unfold Sp.rpiece; rw [if_neg (by simpa using h1), if_neg (by simpa using h2)])
      have HH := Lib.hid h
      have L := Lib.hid h1
      rw [h2] at C
      have s1 : (strOf x.1).size = x.1.length := strOf_size _
      have s2 := ext_drop x.1 p.2.1
      clear h1 h2 hc h
      go_enter Tryd.func90, Tryd.ntmps90
      go_wp2_with (first
        | (go_at_call 75; refine R.out.mono ?_; rintro e w1 ⟨rfl, rfl⟩)
        | (go_at_call 91; refine C.out.mono ?_; rintro e w1 ⟨rfl, hb1⟩; have d0 := ((HH.out.below hb1).cell 0).trans rfl; have f0 := (HH.out.below hb1).frozen 0; clear c0 c1))
      go_ret
      refine ⟨by rw [F.out]; rfl, ?_, (Only.of_below g hb1).trans (Only.set _ _ _ _)⟩
      rw [F.out]
      have := (isRd.set x _ g (HH.out.below hb1) (x.1.drop p.2.1) 0).1
      rwa [L.out] at this
    · have F := Lib.hid (show Sp.rpiece [] p x = ([], (x.1, p.2.2)) by unfold Sp.rpiece; rw [if_neg (by simpa using h1), if_pos h2])
      have HH := Lib.hid h
      have b2 : (p.2.2 == 0) = false := by simpa using h2
      have b3 : (p.2.2 != 0) = true := by simpa using h2
      clear h1 h2 hc h
      go_enter Tryd.func90, Tryd.ntmps90
      go_wp2_with (first
        | (go_at_call 75; refine R.out.mono ?_; rintro e w1 ⟨rfl, rfl⟩)
        | (go_at_call 91; refine C.out.mono ?_; rintro e w1 ⟨rfl, hb1⟩; have d0 := ((HH.out.below hb1).cell 1).trans rfl; have f0 := (HH.out.below hb1).frozen 1; clear c0 c1))
      go_ret
      refine ⟨by rw [F.out]; rfl, ?_, (Only.of_below g hb1).trans (Only.set _ _ _ _)⟩
      rw [F.out]
      exact (isRd.set x _ g (HH.out.below hb1) x.1 p.2.2).2
  · have F := Lib.hid (show Sp.rpiece [] p x = ([], x) by unfold Sp.rpiece; rw [if_pos h1])
    have HH := Lib.hid h
    have b2 : (x.2 == 0) = false := by simpa using h1
    have b3 : (x.2 != 0) = true := by simpa using h1
    clear h1 hc h
    go_enter Tryd.func90, Tryd.ntmps90
    go_wp2_with (go_at_call 75; refine R.out.mono ?_; rintro e w1 ⟨rfl, rfl⟩)
    go_ret
    exact ⟨by rw [F.out]; rfl, by rw [F.out]; exact HH.out, Only.refl _ _⟩
set_option maxRecDepth 100000 in
set_option maxHeartbeats 2000000 in
theorem rtext_calls (g : Nat) (most : Int) (x : Sp.R) (w : World) (h : isRd w g x) (hx : x.1.length < 4294967200) :
    Calls Tryd.prog 74 #[.pointer (some ⟨g, 0, none⟩), .int .i64 most] w fun e w' => e = .returned (.string (strOf (Sp.rtext most x).1)) ∧ isRd w' g (Sp.rtext most x).2 ∧ Only g w w' := by
  have T := Lib.hid (rtake_str g #[.pointer (some ⟨w.heap.size, 0, none⟩)] (Sp.ptext most x.1) x (w.alloc (.cells #[.int .i64 most] 3)) (h.alloc _) (Sp.ptext_bound most x.1).1 (fun _ => text1_calls x.1 most w.heap.size _ (heap_alloc_new _ _) hx))
  clear h
  go_enter Tryd.func74, Tryd.ntmps74
  go_wp2_with (go_at_call 90; refine T.out.mono ?_; rintro e w1 ⟨rfl, hr1, ho1⟩)
  go_ret
  exact ⟨rfl, hr1, (Only.of_below g ((Below.refl _ w).alloc (Nat.le_refl _) _)).trans ho1⟩
end Go.Proofs.YtbjdgiocehoaiaaDoor
