/- Walk: the statement BackoffPlays of chapter 27. -/
import Derived.Test.YtbjdgiocehoaiaaPlaysA
namespace Go.Proofs.Ytbjdgiocehoaiaa.Plays
open Go.RowKit Go.Proofs.Ytbjdgiocehoaiaa.PBackoffPlays Go.Proofs.YtbjdgiocehoaiaaW.PrintWords Go.Proofs.YtbjdgiocehoaiaaW.PrintLast
attribute [local go_sem] yUpon
def St.cells (s : St) : Array Value := #[.int .i64 s.d, .int .i64 s.t, .int .i64 s.a]
def St.refc (s : St) : Array Value := #[.bool s.on, .int .i64 s.t, .int .i64 s.a]
theorem put3 {w : World} {g : Nat} {t : TypeId} {a b c : Value} (h : w.heap[g]? = some (.cells #[a, b, c] t (0, 0))) (x y z : Value) : (((w.setCell ⟨g, 0, none⟩ x).setCell ⟨g, 1, none⟩ y).setCell ⟨g, 2, none⟩ z).heap[g]? = some (.cells #[x, y, z] t (0, 0)) :=
  blk_put (blk_put (blk_put h 0 x rfl) 1 y rfl) 2 z rfl
theorem far3 {w : World} {g g' : Nat} {o : Obj} (h : w.heap[g]? = some o) (hne : g ≠ g') (x y z : Value) : (((w.setCell ⟨g', 0, none⟩ x).setCell ⟨g', 1, none⟩ y).setCell ⟨g', 2, none⟩ z).heap[g]? = some o := by
  rw [Below.heap_setCell _ _ _ _ hne, Below.heap_setCell _ _ _ _ hne, Below.heap_setCell _ _ _ _ hne]; exact h
theorem below3 {B : Nat} {u w : World} {g : Nat} (h : Below B u w) (hg : B ≤ g) (x y z : Value) : Below B u (((w.setCell ⟨g, 0, none⟩ x).setCell ⟨g, 1, none⟩ y).setCell ⟨g, 2, none⟩ z) :=
  ((h.setCell hg _).setCell hg _).setCell hg _
theorem start_own (w : World) : Calls Try.prog 11 #[] w fun e w' => e = .returned (.agg #[.int .i64 1, .int .i64 0, .int .i64 2]) ∧ Below w.heap.size w w' := backoff_Start.calls 6 1 0 2 w (by decide +kernel)
theorem start_ref (w : World) : Calls Try.prog 16 #[] w fun e w' => e = .returned (.agg #[.bool true, .int .i64 0, .int .i64 2]) ∧ Below w.heap.size w w' := hearsayref27_Start.calls 12 true 0 2 w (by decide +kernel)

structure Box (g5 g6 : Nat) (c5 c6 : Array Value) (u W : World) : Prop where
  h5 : W.heap[g5]? = some (.cells c5 27 (0, 0))
  h6 : W.heap[g6]? = some (.cells c6 35 (0, 0))
  below : Below u.heap.size u W
theorem Box.call {g5 g6 : Nat} {c5 c6 : Array Value} {u W W' : World} (h : Box g5 g6 c5 c6 u W) (hb : Below W.heap.size W W') : Box g5 g6 c5 c6 u W' :=
  ⟨blk_below h.h5 hb, blk_below h.h6 hb, h.below.trans (hb.mono h.below.size)⟩
theorem Box.drew {g5 g6 : Nat} {c5 c6 : Array Value} {u W : World} (h : Box g5 g6 c5 c6 u W) : Box g5 g6 c5 c6 u W.drew := ⟨h.h5, h.h6, h.below.drew⟩
theorem Box.set5 {g5 g6 : Nat} {a b c : Value} {c6 : Array Value} {u W : World} (h : Box g5 g6 #[a, b, c] c6 u W) (hne : g5 ≠ g6) (hg : u.heap.size ≤ g5) (x y z : Value) :
    Box g5 g6 #[x, y, z] c6 u (((W.setCell ⟨g5, 0, none⟩ x).setCell ⟨g5, 1, none⟩ y).setCell ⟨g5, 2, none⟩ z) := ⟨put3 h.h5 _ _ _, far3 h.h6 hne.symm _ _ _, below3 h.below hg _ _ _⟩
theorem Box.set6 {g5 g6 : Nat} {a b c : Value} {c5 : Array Value} {u W : World} (h : Box g5 g6 c5 #[a, b, c] u W) (hne : g5 ≠ g6) (hg : u.heap.size ≤ g6) (x y z : Value) :
    Box g5 g6 c5 #[x, y, z] u (((W.setCell ⟨g6, 0, none⟩ x).setCell ⟨g6, 1, none⟩ y).setCell ⟨g6, 2, none⟩ z) := ⟨far3 h.h5 hne _ _ _, put3 h.h6 _ _ _, below3 h.below hg _ _ _⟩

set_option maxRecDepth 100000 in
set_option maxHeartbeats 4000000 in
theorem plays_walk (av : Option Addr) (len cap : Nat) (start : Bool) (w : World) (hc : ∀ i, i < len → ∃ x z, av = some x ∧ w.cell? (x.add i) = some (.int .i64 z) ∧ -9223372036854775808 ≤ z ∧ z ≤ 9223372036854775807) :
    Calls Try.prog 5 #[.slice av len cap, .bool start] w fun e w' => e = .returned (.bool true) ∧ Below w.heap.size w w' := by
  cases start
  case' false =>
    go_enter Try.func5, Try.ntmps5
    go_wp2_with (first | ((with_reducible refine gate_dst (N := 5) rfl ?_); refine box_event ?hg (N := 5) ?hd (cs := #[.int .i64 0, .int .i64 0, .int .i64 0]) (t := 27) ?hr ?_; (case hd => rfl); (case hg => rfl); (case hr => first | (go_simp; done) | (go_simp; rfl)); intro g5 hg5 w5 hx5 hb5; have G5 := Lib.hid (show w.heap.size ≤ g5 by rw [hg5]; exact Nat.le_refl _); clear hg5) | ((with_reducible refine gate_dst (N := 6) rfl ?_); refine box_event ?hg (N := 6) ?hd (cs := #[.bool false, .int .i64 0, .int .i64 0]) (t := 35) ?hr ?_; (case hd => rfl); (case hg => rfl); (case hr => first | (go_simp; done) | (go_simp; rfl)); intro g6 hg6 w6 hx6 hb6; have NE := Lib.hid (show g5 ≠ g6 ∧ w.heap.size ≤ g6 by have h1 := blk_lt hx5; have h2 := hb5.size; omega); have ne1 : g5 ≠ g6 := NE.out.1; have ne2 : g6 ≠ g5 := NE.out.1.symm; have B6 := Lib.hid (Below.trans hb5 (hb6.mono hb5.size)); clear hg6; have hx5' := blk_below hx5 hb6; have c50 := (blk_cell hx5' 0).trans rfl; have c51 := (blk_cell hx5' 1).trans rfl; have c52 := (blk_cell hx5' 2).trans rfl; have c60 := (blk_cell hx6 0).trans rfl; have c61 := (blk_cell hx6 1).trans rfl; have c62 := (blk_cell hx6 2).trans rfl; have f50 := blk_frozen hx5' 0; have f51 := blk_frozen hx5' 1; have f52 := blk_frozen hx5' 2; have f60 := blk_frozen hx6 0; have f61 := blk_frozen hx6 1; have f62 := blk_frozen hx6 2))
    have BX0 : Box g5 g6 #[.int .i64 0, .int .i64 0, .int .i64 0] #[.bool false, .int .i64 0, .int .i64 0] w w6 := ⟨hx5', hx6, B6.out⟩
    have BX := (BX0.set5 ne1 G5.out (.int .i64 0) (.int .i64 0) (.int .i64 0)).set6 ne1 NE.out.2 (.bool false) (.int .i64 0) (.int .i64 0)
    have GG := Lib.hid (And.intro G5.out NE.out.2)
    obtain ⟨W0, hW0⟩ : ∃ W0, W0 = ((((((w6.setCell ⟨g5, 0, none⟩ (.int .i64 0)).setCell ⟨g5, 1, none⟩ (.int .i64 0)).setCell ⟨g5, 2, none⟩ (.int .i64 0)).setCell ⟨g6, 0, none⟩ (.bool false)).setCell ⟨g6, 1, none⟩ (.int .i64 0)).setCell ⟨g6, 2, none⟩ (.int .i64 0)) := ⟨_, rfl⟩
    rw [← hW0] at BX
    rw [← hW0]
    clear hW0 BX0 hx5 hb5 hx6 hb6 hx5' c50 c51 c52 c60 c61 c62 f50 f51 f52 f60 f61 f62 G5 NE B6
    obtain ⟨S0, hS0⟩ : ∃ S0 : St, S0 = ⟨0, 0, 0⟩ := ⟨_, rfl⟩
    have hok0 : S0.ok 0 := by rw [hS0]; unfold St.ok; simp
    replace BX : Box g5 g6 #[.int .i64 S0.d, .int .i64 S0.t, .int .i64 S0.a] #[.bool S0.on, .int .i64 S0.t, .int .i64 S0.a] w W0 := by rw [hS0]; exact BX
    clear hS0
  case' true =>
    go_enter Try.func5, Try.ntmps5
    go_wp2_with (first | ((with_reducible refine gate_dst (N := 5) rfl ?_); refine box_event ?hg (N := 5) ?hd (cs := #[.int .i64 0, .int .i64 0, .int .i64 0]) (t := 27) ?hr ?_; (case hd => rfl); (case hg => rfl); (case hr => first | (go_simp; done) | (go_simp; rfl)); intro g5 hg5 w5 hx5 hb5; have G5 := Lib.hid (show w.heap.size ≤ g5 by rw [hg5]; exact Nat.le_refl _); clear hg5) | ((with_reducible refine gate_dst (N := 6) rfl ?_); refine box_event ?hg (N := 6) ?hd (cs := #[.bool false, .int .i64 0, .int .i64 0]) (t := 35) ?hr ?_; (case hd => rfl); (case hg => rfl); (case hr => first | (go_simp; done) | (go_simp; rfl)); intro g6 hg6 w6 hx6 hb6; have NE := Lib.hid (show g5 ≠ g6 ∧ w.heap.size ≤ g6 by have h1 := blk_lt hx5; have h2 := hb5.size; omega); have ne1 : g5 ≠ g6 := NE.out.1; have ne2 : g6 ≠ g5 := NE.out.1.symm; have B6 := Lib.hid (Below.trans hb5 (hb6.mono hb5.size)); clear hg6; have hx5' := blk_below hx5 hb6; have c50 := (blk_cell hx5' 0).trans rfl; have c51 := (blk_cell hx5' 1).trans rfl; have c52 := (blk_cell hx5' 2).trans rfl; have c60 := (blk_cell hx6 0).trans rfl; have c61 := (blk_cell hx6 1).trans rfl; have c62 := (blk_cell hx6 2).trans rfl; have f50 := blk_frozen hx5' 0; have f51 := blk_frozen hx5' 1; have f52 := blk_frozen hx5' 2; have f60 := blk_frozen hx6 0; have f61 := blk_frozen hx6 1; have f62 := blk_frozen hx6 2) | (go_at_call 11; refine (start_own _).mono ?_; rintro e w7 ⟨rfl, hb7⟩; have BX1 : Box g5 g6 #[.int .i64 0, .int .i64 0, .int .i64 0] #[.bool false, .int .i64 0, .int .i64 0] w w7 := (((Box.mk hx5' hx6 B6.out : Box g5 g6 #[.int .i64 0, .int .i64 0, .int .i64 0] #[.bool false, .int .i64 0, .int .i64 0] w w6).set5 ne1 G5.out (.int .i64 0) (.int .i64 0) (.int .i64 0)).set6 ne1 NE.out.2 (.bool false) (.int .i64 0) (.int .i64 0)).call hb7; clear hx5 hb5 hx6 hb6 hx5' c50 c51 c52 c60 c61 c62 f50 f51 f52 f60 f61 f62 hb7) | (go_at_call 16; refine (start_ref _).mono ?_; rintro e w8 ⟨rfl, hb8⟩; have BXn : Box g5 g6 #[.int .i64 0, .int .i64 0, .int .i64 0] #[.bool false, .int .i64 0, .int .i64 0] w w8 := BX1.call hb8; clear BX1 hb8; have c50 := (blk_cell BXn.h5 0).trans rfl; have c51 := (blk_cell BXn.h5 1).trans rfl; have c52 := (blk_cell BXn.h5 2).trans rfl; have c60 := (blk_cell BXn.h6 0).trans rfl; have c61 := (blk_cell BXn.h6 1).trans rfl; have c62 := (blk_cell BXn.h6 2).trans rfl; have f50 := blk_frozen BXn.h5 0; have f51 := blk_frozen BXn.h5 1; have f52 := blk_frozen BXn.h5 2; have f60 := blk_frozen BXn.h6 0; have f61 := blk_frozen BXn.h6 1; have f62 := blk_frozen BXn.h6 2))
    have BX := (BXn.set5 ne1 G5.out (.int .i64 1) (.int .i64 0) (.int .i64 2)).set6 ne1 NE.out.2 (.bool true) (.int .i64 0) (.int .i64 2)
    have GG := Lib.hid (And.intro G5.out NE.out.2)
    obtain ⟨W0, hW0⟩ : ∃ W0, W0 = ((((((w8.setCell ⟨g5, 0, none⟩ (.int .i64 1)).setCell ⟨g5, 1, none⟩ (.int .i64 0)).setCell ⟨g5, 2, none⟩ (.int .i64 2)).setCell ⟨g6, 0, none⟩ (.bool true)).setCell ⟨g6, 1, none⟩ (.int .i64 0)).setCell ⟨g6, 2, none⟩ (.int .i64 2)) := ⟨_, rfl⟩
    rw [← hW0] at BX
    rw [← hW0]
    clear hW0 BXn c50 c51 c52 c60 c61 c62 f50 f51 f52 f60 f61 f62 G5 NE B6
    obtain ⟨S0, hS0⟩ : ∃ S0 : St, S0 = ⟨1, 0, 2⟩ := ⟨_, rfl⟩
    have hok0 : S0.ok 0 := by rw [hS0]; unfold St.ok; simp
    replace BX : Box g5 g6 #[.int .i64 S0.d, .int .i64 S0.t, .int .i64 S0.a] #[.bool S0.on, .int .i64 S0.t, .int .i64 S0.a] w W0 := by rw [hS0]; exact BX
    clear hS0
  all_goals
    go_loopw [7, 8, 9] (fun v7 _ _ wr => ∃ (i : Nat) (s : St), i ≤ len ∧ i ≤ 60 ∧ v7 = .int .i64 i ∧ s.ok i ∧ Box g5 g6 #[.int .i64 s.d, .int .i64 s.t, .int .i64 s.a] #[.bool s.on, .int .i64 s.t, .int .i64 s.a] w wr) (fun v7 _ _ _ => 60 - (intOf v7).toNat)
    case atStart => exact ⟨0, S0, Nat.zero_le _, Nat.zero_le _, rfl, hok0, BX⟩
    case round =>
      obtain ⟨i, s, hi, hi60, rfl, hok, bx⟩ := hrel
      by_cases hlt : i < len ∧ i < 60
      · obtain ⟨hl1, hl2⟩ := hlt
        obtain ⟨x, z, rfl, hcell, hz0, hz1⟩ := hc i hl1
        have hcr : wr.cell? (x.add i) = some (.int .i64 z) := pw_cell_below bx.below hcell
        have q1 : decide ((i : Int) < (len : Int)) = true := by simp; omega
        have q2 : decide ((i : Int) < 60) = true := by simp; omega
        obtain ⟨d, t, a⟩ := s
        replace bx : Box g5 g6 #[.int .i64 d, .int .i64 t, .int .i64 a] #[.bool (St.on ⟨d, t, a⟩), .int .i64 t, .int .i64 a] w wr := bx
        by_cases hneg : z < 0
        · skip
          obtain ⟨n, hn⟩ : ∃ n : St, n = St.again ⟨d, t, a⟩ := ⟨_, rfl⟩
          have hok' : n.ok (i + 1) := by rw [hn]; exact St.ok_again hok
          have CA := Lib.hid fun W => again_own hok hi60 W
          have CR := Lib.hid fun W => again_ref hok hi60 W
          rw [← hn] at CA CR
          clear hn
          obtain ⟨b0, hb0⟩ : ∃ b, b = St.on ⟨d, t, a⟩ := ⟨_, rfl⟩
          simp only [St.ref, St.own] at CA CR
          rw [← hb0] at bx CR
          clear hb0
          have q3 : decide (z < 0) = true := by simp; omega
          go_wp2_with fail
          refine wp_region_det_tail (fun W => Box g5 g6 #[.int .i64 d, .int .i64 t, .int .i64 a] #[.bool b0, .int .i64 t, .int .i64 a] w W) 4 (by kernel_rfl) (by kernel_rfl) bx.drew ?_
          simp only [List.take_succ_cons, List.take_zero, List.drop_succ_cons, List.drop_zero]
          repeat (first
            | (refine det_step (fun K hK => ?_)
               apply Exists.intro
               refine ⟨Or.inl ⟨rfl, fun W hS => ?_⟩, ?_⟩
               · have hz := hS
                 replace hz : Box g5 g6 #[.int .i64 d, .int .i64 t, .int .i64 a] #[.bool b0, .int .i64 t, .int .i64 a] w W := hz
                 have c50 := (blk_cell (hz).h5 0).trans rfl; have c51 := (blk_cell (hz).h5 1).trans rfl; have c52 := (blk_cell (hz).h5 2).trans rfl; have c60 := (blk_cell (hz).h6 0).trans rfl; have c61 := (blk_cell (hz).h6 1).trans rfl; have c62 := (blk_cell (hz).h6 2).trans rfl
                 go_simp
                 first
                 | exact rfl
                 | exact ⟨rfl, hz⟩
                 | ((with_reducible refine (CA.out W).mono ?_); rintro e w' ⟨rfl, hb1⟩; exact ⟨rfl, hz.call hb1⟩)
                 | ((with_reducible refine (CR.out W).mono ?_); rintro e w' ⟨rfl, hb1⟩; exact ⟨rfl, hz.call hb1⟩)
               go_simp
               refine hK _ ?_
               clear hK K)
            | (refine det_step (fun K hK => ?_); refine det_no' rfl ?_; go_simp; refine hK _ ?_; clear hK K))
          refine det_nil ?_
          intro W8 hS
          replace hS : Box g5 g6 #[.int .i64 d, .int .i64 t, .int .i64 a] #[.bool b0, .int .i64 t, .int .i64 a] w W8 := hS
          have c50 := (blk_cell (hS).h5 0).trans rfl; have c51 := (blk_cell (hS).h5 1).trans rfl; have c52 := (blk_cell (hS).h5 2).trans rfl; have c60 := (blk_cell (hS).h6 0).trans rfl; have c61 := (blk_cell (hS).h6 1).trans rfl; have c62 := (blk_cell (hS).h6 2).trans rfl
          have f50 := blk_frozen (hS).h5 0; have f51 := blk_frozen (hS).h5 1; have f52 := blk_frozen (hS).h5 2; have f60 := blk_frozen (hS).h6 0; have f61 := blk_frozen (hS).h6 1; have f62 := blk_frozen (hS).h6 2
          have bx9 : Box g5 g6 #[.int .i64 n.d, .int .i64 n.t, .int .i64 n.a] #[.bool n.on, .int .i64 n.t, .int .i64 n.a] w _ := (hS.set5 ne1 GG.out.1 (.int .i64 n.d) (.int .i64 n.t) (.int .i64 n.a)).set6 ne1 GG.out.2 (.bool n.on) (.int .i64 n.t) (.int .i64 n.a)
          go_wp2_with fail
          clear c50 c51 c52 c60 c61 c62 f50 f51 f52 f60 f61 f62 hS CA CR bx
          obtain ⟨W9, hW9⟩ : ∃ W9, W9 = ((((((W8.setCell ⟨g5, 0, none⟩ (.int .i64 n.d)).setCell ⟨g5, 1, none⟩ (.int .i64 n.t)).setCell ⟨g5, 2, none⟩ (.int .i64 n.a)).setCell ⟨g6, 0, none⟩ (.bool n.on)).setCell ⟨g6, 1, none⟩ (.int .i64 n.t)).setCell ⟨g6, 2, none⟩ (.int .i64 n.a)) := ⟨_, rfl⟩
          rw [← hW9] at bx9
          rw [← hW9]
          clear hW9
          cases ho : n.on
          all_goals
            have C1 := Lib.hid fun W => on_own (s := n) W
            have C2 := Lib.hid fun W => tries_own (s := n) W
            have C3 := Lib.hid fun W => left_own (s := n) W
            have C4 := Lib.hid fun W => spent_own (s := n) W
            rw [ho] at bx9 C1 C4
            simp only [St.own, Bool.false_and, Bool.true_and] at C1 C2 C3 C4
            refine wp_region_det (fun W => Box g5 g6 #[.int .i64 n.d, .int .i64 n.t, .int .i64 n.a] #[.bool _, .int .i64 n.t, .int .i64 n.a] w W) (by kernel_rfl) (by kernel_rfl) bx9.drew ?_
            repeat (first
              | (refine det_step (fun K hK => ?_)
                 apply Exists.intro
                 refine ⟨Or.inl ⟨rfl, fun W hS => ?_⟩, ?_⟩
                 · have hz := hS
                   replace hz : Box g5 g6 #[.int .i64 n.d, .int .i64 n.t, .int .i64 n.a] #[.bool _, .int .i64 n.t, .int .i64 n.a] w W := hz
                   have c50 := (blk_cell (hz).h5 0).trans rfl; have c51 := (blk_cell (hz).h5 1).trans rfl; have c52 := (blk_cell (hz).h5 2).trans rfl; have c60 := (blk_cell (hz).h6 0).trans rfl; have c61 := (blk_cell (hz).h6 1).trans rfl; have c62 := (blk_cell (hz).h6 2).trans rfl
                   go_simp
                   first
                   | exact rfl
                   | exact ⟨rfl, hz⟩
                   | ((with_reducible refine (C1.out W).mono ?_); rintro e w' ⟨rfl, hb1⟩; exact ⟨rfl, hz.call hb1⟩)
                   | ((with_reducible refine (C2.out W).mono ?_); rintro e w' ⟨rfl, hb1⟩; exact ⟨rfl, hz.call hb1⟩)
                   | ((with_reducible refine (C3.out W).mono ?_); rintro e w' ⟨rfl, hb1⟩; exact ⟨rfl, hz.call hb1⟩)
                   | ((with_reducible refine (C4.out W).mono ?_); rintro e w' ⟨rfl, hb1⟩; exact ⟨rfl, hz.call hb1⟩)
                 go_simp
                 refine hK _ ?_
                 clear hK K)
              | (refine det_step (fun K hK => ?_); refine det_no' rfl ?_; go_simp; refine hK _ ?_; clear hK K))
            refine det_nil ?_
            intro W10 hS
            go_wp2_with fail
            go_roundw
            case rel => exact ⟨i + 1, n, by omega, by omega, by go_num, hok', by rw [ho]; exact hS⟩
            case measure => simp [intOf]; omega
        · skip
          obtain ⟨n, r, hn⟩ : ∃ (n : St) (r : Bool), (n, r) = St.tick ⟨d, t, a⟩ z := ⟨_, _, rfl⟩
          have hok' : n.ok (i + 1) := by have := St.ok_tick hok z; rw [← hn] at this; exact this
          have CA := Lib.hid fun W => tick_own hok z (by omega) W
          have CR := Lib.hid fun W => tick_ref hok z (by omega) W
          rw [← hn] at CA CR
          clear hn
          obtain ⟨b0, hb0⟩ : ∃ b, b = St.on ⟨d, t, a⟩ := ⟨_, rfl⟩
          simp only [St.ref, St.own] at CA CR
          rw [← hb0] at bx CR
          clear hb0
          have q3 : decide (z < 0) = false := by simp; omega
          go_wp2_with fail
          refine wp_region_det_mid (fun W => Box g5 g6 #[.int .i64 d, .int .i64 t, .int .i64 a] #[.bool b0, .int .i64 t, .int .i64 a] w W) 6 3 (by kernel_rfl) (by kernel_rfl) bx.drew ?_
          simp only [List.take_succ_cons, List.take_zero, List.drop_succ_cons, List.drop_zero]
          repeat (first
            | (refine det_step (fun K hK => ?_)
               apply Exists.intro
               refine ⟨Or.inl ⟨rfl, fun W hS => ?_⟩, ?_⟩
               · have hz := hS
                 replace hz : Box g5 g6 #[.int .i64 d, .int .i64 t, .int .i64 a] #[.bool b0, .int .i64 t, .int .i64 a] w W := hz
                 have cz := pw_cell_below hz.below hcell
                 have c50 := (blk_cell (hz).h5 0).trans rfl; have c51 := (blk_cell (hz).h5 1).trans rfl; have c52 := (blk_cell (hz).h5 2).trans rfl; have c60 := (blk_cell (hz).h6 0).trans rfl; have c61 := (blk_cell (hz).h6 1).trans rfl; have c62 := (blk_cell (hz).h6 2).trans rfl
                 go_simp
                 first
                 | exact rfl
                 | exact ⟨rfl, hz⟩
                 | ((with_reducible refine (CA.out W).mono ?_); rintro e w' ⟨rfl, hb1⟩; exact ⟨rfl, hz.call hb1⟩)
               go_simp
               refine hK _ ?_
               clear hK K)
            | (refine det_step (fun K hK => ?_); refine det_no' rfl ?_; go_simp; refine hK _ ?_; clear hK K))
          refine det_nil ?_
          intro W7 hS
          replace hS : Box g5 g6 #[.int .i64 d, .int .i64 t, .int .i64 a] #[.bool b0, .int .i64 t, .int .i64 a] w W7 := hS
          have c50 := (blk_cell (hS).h5 0).trans rfl; have c51 := (blk_cell (hS).h5 1).trans rfl; have c52 := (blk_cell (hS).h5 2).trans rfl; have c60 := (blk_cell (hS).h6 0).trans rfl; have c61 := (blk_cell (hS).h6 1).trans rfl; have c62 := (blk_cell (hS).h6 2).trans rfl
          have f50 := blk_frozen (hS).h5 0; have f51 := blk_frozen (hS).h5 1; have f52 := blk_frozen (hS).h5 2; have f60 := blk_frozen (hS).h6 0; have f61 := blk_frozen (hS).h6 1; have f62 := blk_frozen (hS).h6 2
          have bx8 : Box g5 g6 #[.int .i64 n.d, .int .i64 n.t, .int .i64 n.a] #[.bool b0, .int .i64 t, .int .i64 a] w _ := hS.set5 ne1 GG.out.1 (.int .i64 n.d) (.int .i64 n.t) (.int .i64 n.a)
          repeat
            (refine float_step (fun K hK => ?_)
             apply Exists.intro
             refine ⟨Or.inl ⟨rfl, fun W => ?_⟩, ?_⟩
             · go_simp; exact rfl
             go_simp
             refine hK _ ?_
             clear hK K)
          refine float_nil ?_
          go_wp2_with fail
          refine ⟨rfl, ?_⟩
          go_wp2_with fail
          clear c50 c51 c52 c60 c61 c62 f50 f51 f52 f60 f61 f62 hS bx
          obtain ⟨W6, hW6⟩ : ∃ W6, W6 = ((W7.setCell ⟨g5, 0, none⟩ (.int .i64 n.d)).setCell ⟨g5, 1, none⟩ (.int .i64 n.t)).setCell ⟨g5, 2, none⟩ (.int .i64 n.a) := ⟨_, rfl⟩
          rw [← hW6] at bx8
          rw [← hW6]
          clear hW6
          refine wp_region_det_mid (fun W => Box g5 g6 #[.int .i64 n.d, .int .i64 n.t, .int .i64 n.a] #[.bool b0, .int .i64 t, .int .i64 a] w W) 6 3 (by kernel_rfl) (by kernel_rfl) bx8.drew ?_
          simp only [List.take_succ_cons, List.take_zero, List.drop_succ_cons, List.drop_zero]
          repeat (first
            | (refine det_step (fun K hK => ?_)
               apply Exists.intro
               refine ⟨Or.inl ⟨rfl, fun W hS => ?_⟩, ?_⟩
               · have hz := hS
                 replace hz : Box g5 g6 #[.int .i64 n.d, .int .i64 n.t, .int .i64 n.a] #[.bool b0, .int .i64 t, .int .i64 a] w W := hz
                 have cz := pw_cell_below hz.below hcell
                 have c50 := (blk_cell (hz).h5 0).trans rfl; have c51 := (blk_cell (hz).h5 1).trans rfl; have c52 := (blk_cell (hz).h5 2).trans rfl; have c60 := (blk_cell (hz).h6 0).trans rfl; have c61 := (blk_cell (hz).h6 1).trans rfl; have c62 := (blk_cell (hz).h6 2).trans rfl
                 go_simp
                 first
                 | exact rfl
                 | exact ⟨rfl, hz⟩
                 | ((with_reducible refine (CR.out W).mono ?_); rintro e w' ⟨rfl, hb1⟩; exact ⟨rfl, hz.call hb1⟩)
               go_simp
               refine hK _ ?_
               clear hK K)
            | (refine det_step (fun K hK => ?_); refine det_no' rfl ?_; go_simp; refine hK _ ?_; clear hK K))
          refine det_nil ?_
          intro W8 hS
          replace hS : Box g5 g6 #[.int .i64 n.d, .int .i64 n.t, .int .i64 n.a] #[.bool b0, .int .i64 t, .int .i64 a] w W8 := hS
          have c50 := (blk_cell (hS).h5 0).trans rfl; have c51 := (blk_cell (hS).h5 1).trans rfl; have c52 := (blk_cell (hS).h5 2).trans rfl; have c60 := (blk_cell (hS).h6 0).trans rfl; have c61 := (blk_cell (hS).h6 1).trans rfl; have c62 := (blk_cell (hS).h6 2).trans rfl
          have f50 := blk_frozen (hS).h5 0; have f51 := blk_frozen (hS).h5 1; have f52 := blk_frozen (hS).h5 2; have f60 := blk_frozen (hS).h6 0; have f61 := blk_frozen (hS).h6 1; have f62 := blk_frozen (hS).h6 2
          have bx9 : Box g5 g6 #[.int .i64 n.d, .int .i64 n.t, .int .i64 n.a] #[.bool n.on, .int .i64 n.t, .int .i64 n.a] w _ := hS.set6 ne1 GG.out.2 (.bool n.on) (.int .i64 n.t) (.int .i64 n.a)
          repeat
            (refine float_step (fun K hK => ?_)
             apply Exists.intro
             refine ⟨Or.inl ⟨rfl, fun W => ?_⟩, ?_⟩
             · go_simp; exact rfl
             go_simp
             refine hK _ ?_
             clear hK K)
          refine float_nil ?_
          go_wp2_with fail
          refine ⟨rfl, ?_⟩
          go_wp2_with fail
          clear c50 c51 c52 c60 c61 c62 f50 f51 f52 f60 f61 f62 hS CA CR bx8
          obtain ⟨W9, hW9⟩ : ∃ W9, W9 = (((W8.setCell ⟨g6, 0, none⟩ (.bool n.on)).setCell ⟨g6, 1, none⟩ (.int .i64 n.t)).setCell ⟨g6, 2, none⟩ (.int .i64 n.a)) := ⟨_, rfl⟩
          rw [← hW9] at bx9
          rw [← hW9]
          clear hW9
          cases ho : n.on
          all_goals
            have C1 := Lib.hid fun W => on_own (s := n) W
            have C2 := Lib.hid fun W => tries_own (s := n) W
            have C3 := Lib.hid fun W => left_own (s := n) W
            have C4 := Lib.hid fun W => spent_own (s := n) W
            rw [ho] at bx9 C1 C4
            simp only [St.own, Bool.false_and, Bool.true_and] at C1 C2 C3 C4
            refine wp_region_det (fun W => Box g5 g6 #[.int .i64 n.d, .int .i64 n.t, .int .i64 n.a] #[.bool _, .int .i64 n.t, .int .i64 n.a] w W) (by kernel_rfl) (by kernel_rfl) bx9.drew ?_
            repeat (first
              | (refine det_step (fun K hK => ?_)
                 apply Exists.intro
                 refine ⟨Or.inl ⟨rfl, fun W hS => ?_⟩, ?_⟩
                 · have hz := hS
                   replace hz : Box g5 g6 #[.int .i64 n.d, .int .i64 n.t, .int .i64 n.a] #[.bool _, .int .i64 n.t, .int .i64 n.a] w W := hz
                   have c50 := (blk_cell (hz).h5 0).trans rfl; have c51 := (blk_cell (hz).h5 1).trans rfl; have c52 := (blk_cell (hz).h5 2).trans rfl; have c60 := (blk_cell (hz).h6 0).trans rfl; have c61 := (blk_cell (hz).h6 1).trans rfl; have c62 := (blk_cell (hz).h6 2).trans rfl
                   go_simp
                   first
                   | exact rfl
                   | exact ⟨rfl, hz⟩
                   | ((with_reducible refine (C1.out W).mono ?_); rintro e w' ⟨rfl, hb1⟩; exact ⟨rfl, hz.call hb1⟩)
                   | ((with_reducible refine (C2.out W).mono ?_); rintro e w' ⟨rfl, hb1⟩; exact ⟨rfl, hz.call hb1⟩)
                   | ((with_reducible refine (C3.out W).mono ?_); rintro e w' ⟨rfl, hb1⟩; exact ⟨rfl, hz.call hb1⟩)
                   | ((with_reducible refine (C4.out W).mono ?_); rintro e w' ⟨rfl, hb1⟩; exact ⟨rfl, hz.call hb1⟩)
                 go_simp
                 refine hK _ ?_
                 clear hK K)
              | (refine det_step (fun K hK => ?_); refine det_no' rfl ?_; go_simp; refine hK _ ?_; clear hK K))
            refine det_nil ?_
            intro W10 hS
            go_wp2_with fail
            go_roundw
            case rel => exact ⟨i + 1, n, by omega, by omega, by go_num, hok', by rw [ho]; exact hS⟩
            case measure => simp [intOf]; omega
      · have F : (decide ((i : Int) < (len : Int)) && decide ((i : Int) < 60)) = false := by
          rw [Bool.and_eq_false_iff]; simp; omega
        by_cases hl1 : i < len
        · have q1 : decide ((i : Int) < (len : Int)) = true := by simp; omega
          have q2 : decide ((i : Int) < 60) = false := by simp; omega
          go_wp2_with (go_at_call 10; refine (awake_own _).mono ?_; rintro e w' ⟨rfl, hb⟩)
          go_ret
          exact ⟨rfl, bx.below.trans (hb.mono bx.below.size)⟩
        · have q1 : decide ((i : Int) < (len : Int)) = false := by simp; omega
          go_wp2_with (go_at_call 10; refine (awake_own _).mono ?_; rintro e w' ⟨rfl, hb⟩)
          go_ret
          exact ⟨rfl, bx.below.trans (hb.mono bx.below.size)⟩
end Go.Proofs.Ytbjdgiocehoaiaa.Plays
