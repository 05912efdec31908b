/- What the walk meets: a variable in memory, a block of its own. Bytes in a block, turned into a text. Walks: vectors: get, has. Walks: leaves, one behind the other. Walks: the reference's vectors. Walks: versions that are the same; those that live. Walks: a number that is written, the reference's. Walks: the reference's writer, and its reader. -/
import Derived.Test.YtmlfnidckfeebaaGreatDoorQQ005
namespace Go.Proofs.YtmlfnidckfeebaaGreatDoor
open Go.RowKit
section
variable {P : Program} {ops : Array Oper} {rest : List Oper} {o : Oper} {a : Act} {Q : Exit → Act → World → Prop} {w : World}
end
theorem cellKept {W W' : World} {a : Addr} {v : Value} (h : W.cell? a = some v) (k : Below W.heap.size W W') : W'.cell? a = some v := by
  rw [k.cell (World.block_lt_of_cell? _ _ h)]; exact h
end Go.Proofs.YtmlfnidckfeebaaGreatDoor
namespace Go.Proofs.YtmlfnidckfeebaaGreatDoor

theorem strOf_append (s : ByteArray) (l : List UInt8) : s ++ strOf l = strOf (s.data.toList ++ l) := by
  apply ByteArray.ext
  simp [strOf, ByteArray.data_append]
end Go.Proofs.YtmlfnidckfeebaaGreatDoor
namespace Go.Proofs.YtmlfnidckfeebaaGreatDoor
open Go.RowKit
attribute [local go_sem] yUpon
theorem DD.two {w : World} {l m : List Sp.Dot} {A B : Option Addr} {cap cap' : Nat} {t : TypeId} (h : Dots w A l) (hl : l.length ≤ 140737488351232) (h' : Dots w B m) (hl' : m.length ≤ 140737488351232) : DD (w.alloc (.cells #[.slice A l.length cap, .slice B m.length cap'] t)) (some ⟨w.heap.size, 0, none⟩) [l, m] :=
  ⟨[.slice A l.length cap, .slice B m.length cap'], rfl, fun _ => ⟨_, _, rfl, fun i u hi => by rw [Nat.zero_add, cell_of_row _ w.heap.size i _ t (0, 0) (heap_alloc_new w _)]; simpa using hi⟩, fun i hi => by
    rcases i with _ | _ | i
    · exact ⟨A, cap, rfl, h.ext (Ext.alloc _ _), hl⟩
    · exact ⟨B, cap', rfl, h'.ext (Ext.alloc _ _), hl'⟩
    · simp at hi; omega⟩
end Go.Proofs.YtmlfnidckfeebaaGreatDoor
namespace Go.Proofs.YtmlfnidckfeebaaGreatDoor
open Go.RowKit
attribute [local go_sem] yUpon
theorem VV.two {w : World} {l m : List Sp.Ver} {A B : Option Addr} {cap cap' g : Nat} {t : TypeId} (h : Vers w A l) (h' : Vers w B m) (hg : w.heap.size = g) : VV (w.alloc (.cells #[.slice A l.length cap, .slice B m.length cap'] t)) (some ⟨g, 0, none⟩) [l, m] := by
  subst hg
  exact ⟨[.slice A l.length cap, .slice B m.length cap'], rfl, fun _ => ⟨_, _, rfl, fun i u hi => by rw [Nat.zero_add, cell_of_row _ w.heap.size i _ t (0, 0) (heap_alloc_new w _)]; simpa using hi⟩, fun i hi => by
    rcases i with _ | _ | i
    · exact ⟨A, cap, rfl, h.ext (Ext.alloc _ _)⟩
    · exact ⟨B, cap', rfl, h'.ext (Ext.alloc _ _)⟩
    · simp at hi; omega⟩
end Go.Proofs.YtmlfnidckfeebaaGreatDoor
namespace Go.Proofs.YtmlfnidckfeebaaGreatDoor
open Go.RowKit
attribute [local go_sem] yUpon
namespace Sp
def vlast (l : List Dot) (k : Nat) : Int := if k = 0 then -1 else ((l[k - 1]?).map (·.1)).getD 0
theorem vgo_step (l : List Dot) (k : Nat) (h : k < l.length) : vgo (vlast l k) (l.drop k) = if dot l[k] ≠ 0 then dot l[k] else if l[k].1 ≤ vlast l k then 8 else vgo (vlast l (k + 1)) (l.drop (k + 1)) := by
  rw [List.drop_eq_getElem_cons h, vgo]
  have : vlast l (k + 1) = l[k].1 := by unfold vlast; rw [if_neg (by omega)]; simp [h]
  rw [this]
theorem vlast_pos (l : List Dot) (k : Nat) (h0 : 0 < k) (h : k - 1 < l.length) : vlast l k = l[k - 1].1 := by
  unfold vlast
  rw [if_neg (by omega), List.getElem?_eq_getElem h]
  rfl
end Sp
set_option maxRecDepth 100000 in
set_option maxHeartbeats 2000000 in
theorem rdot_calls (d : Sp.Dot) (w : World) : Calls Tryz.prog 211 #[dotV d] w fun e w' => e = .returned (.int .i64 (Sp.dot d)) ∧ Ext w w' := by
  go_enter Tryz.func211, Tryz.ntmps211
  go_wp2
  all_goals
    go_ret
    refine ⟨ret_int ?_, Ext.alloc _ _⟩
    unfold Sp.dot
    (repeat' split) <;> omega
set_option maxRecDepth 100000 in
set_option maxHeartbeats 4000000 in
theorem rvcheck_calls (l : List Sp.Dot) (A : Option Addr) (cap : Nat) (w : World) (h : Dots w A l) (hl : l.length ≤ 140737488351232) :
    Calls Tryz.prog 139 #[.slice A l.length cap] w fun e w' => e = .returned (.int .i64 (Sp.vcheck l)) ∧ Ext w w' := by
  go_enter Tryz.func139, Tryz.ntmps139
  go_wp2
  go_loopw [3] (fun v3 wr => ∃ k : Nat, k ≤ l.length ∧ v3 = .int .i64 k ∧ Sp.vcheck l = Sp.vgo (Sp.vlast l k) (l.drop k) ∧ Ext w wr) (fun v3 _ => l.length - (intOf v3).toNat)
  case atStart => exact ⟨0, Nat.zero_le _, rfl, rfl, Ext.refl _⟩
  case round =>
    obtain ⟨k, hk, rfl, hv, hb⟩ := hrel
    by_cases hlt : k < l.length
    · obtain ⟨g, o, rfl, hc⟩ := (h.ext hb).at (by omega)
      obtain ⟨c1, c2⟩ := hc k hlt
      have HC := Lib.hid hc
      rw [Sp.vgo_step l k hlt] at hv
      have HV := Lib.hid hv
      clear hv hc
      go_wp2_with fail
      refine (rdot_calls l[k] wr).mono ?_
      rintro e w1 ⟨rfl, hb1⟩
      have B1 := Lib.hid hb1
      have f0 := hb1.cell c1
      clear hb1 c1 c2
      by_cases hz : Sp.dot l[k] = 0
      · have b2 : (Sp.dot l[k] != 0) = false := by simpa using hz
        by_cases h0 : k = 0
        · subst h0
          have b3 : decide ((0 : Int) < 0) = false := by decide
          go_wp2_with fail
          refine wp_region_det (fun W => Ext w1 W) (by kernel_rfl) (by kernel_rfl) (Below.refl _ _).drew ?_
          repeat (first
            | (refine det_step (fun K hK => ?_)
               apply Exists.intro
               refine ⟨Or.inl ⟨rfl, fun W hS => ?_⟩, ?_⟩
               · replace hS : Ext w1 W := hS
                 skip
                 go_simp
                 first
                 | exact rfl
                 | exact ⟨rfl, hS⟩
                 | (fail)
               go_simp
               refine hK _ ?_
               clear hK K)
            | (refine det_step (fun K hK => ?_); refine det_no' rfl ?_; go_simp; refine hK _ ?_; clear hK K))
          refine det_nil ?_
          intro W9 hS
          replace hS : Ext _ W9 := hS
          go_wp2_with fail
          have hp := (Sp.dot_ok.1 hz).1
          go_roundw
          case rel => exact ⟨1, by omega, rfl, by rw [HV.out, if_neg (by simpa using hz), if_neg (by show ¬ _ ≤ (-1 : Int); omega)], hb.trans (B1.out.trans hS)⟩
          case measure => simp [intOf]; omega
        · have b3 : decide (0 < k) = true := by rw [decide_eq_true_iff]; omega
          have h0' : 0 < k := by omega
          obtain ⟨d0, d1⟩ := HC.out (k - 1) (by omega)
          have w1' : IntKind.i64.wrap ((k : Int) - 1) = (k : Int) - 1 := IntWalk.i64_in _ (by omega)
          have i1 : (0 : Int) ≤ (k : Int) - 1 := by omega
          have i2 : (k : Int) - 1 < l.length := by omega
          have i4 : (1 : Int) ≤ k := by omega
          have i5 : 1 ≤ k := by omega
          have i3 : ((k : Int) - 1).toNat = k - 1 := by omega
          have e0 := B1.out.cell d0
          have VL := Lib.hid (Sp.vlast_pos l k h0' (by omega))
          clear d0 d1
          go_wp2_with fail
          refine wp_region_det (fun W => Ext w1 W) (by kernel_rfl) (by kernel_rfl) (Below.refl _ _).drew ?_
          repeat (first
            | (refine det_step (fun K hK => ?_)
               apply Exists.intro
               refine ⟨Or.inl ⟨rfl, fun W hS => ?_⟩, ?_⟩
               · replace hS : Ext w1 W := hS
                 have f1 := hS.cell e0; have f2 := hS.cell f0
                 go_simp
                 first
                 | exact rfl
                 | exact ⟨rfl, hS⟩
                 | (fail)
               go_simp
               refine hK _ ?_
               clear hK K)
            | (refine det_step (fun K hK => ?_); refine det_no' rfl ?_; go_simp; refine hK _ ?_; clear hK K))
          refine det_nil ?_
          intro W9 hS
          replace hS : Ext _ W9 := hS
          go_wp2_with fail
          · go_ret
            have hle : l[k].1 ≤ l[k - 1].1 := by assumption
            exact ⟨ret_int (by rw [HV.out, if_neg (by simpa using hz), VL.out, if_pos hle]), hb.trans (B1.out.trans hS)⟩
          · have hgt : ¬ l[k].1 ≤ l[k - 1].1 := by omega
            go_roundw
            case rel => exact ⟨k + 1, by omega, by go_num, by rw [HV.out, if_neg (by simpa using hz), VL.out, if_neg hgt], hb.trans (B1.out.trans hS)⟩
            case measure => simp [intOf]; omega
      · have b2 : (Sp.dot l[k] != 0) = true := by simpa using hz
        go_wp2_with fail
        go_ret
        exact ⟨ret_int (by rw [HV.out, if_pos hz]), hb.trans B1.out⟩
    · obtain rfl : k = l.length := by omega
      rw [List.drop_length, Sp.vgo] at hv
      have HV := Lib.hid hv
      clear hv
      go_wp2
      go_ret
      exact ⟨ret_int HV.out.symm, hb⟩
set_option maxRecDepth 100000 in
set_option maxHeartbeats 4000000 in
theorem rvget_calls (l : List Sp.Dot) (A : Option Addr) (cap : Nat) (p : Int) (w : World) (h : Dots w A l) (hl : l.length ≤ 140737488351232) :
    Calls Tryz.prog 267 #[.slice A l.length cap, .int .i64 p] w fun e w' => e = .returned (.int .i64 (Sp.vget l p)) ∧ Ext w w' := by
  have C := Lib.hid (rvcheck_calls l A cap w h hl)
  have HH := Lib.hid h
  clear h
  by_cases hz : Sp.vcheck l = 0
  · have F := Lib.hid (show Sp.vget l p = Sp.vfind p l from if_neg (by simpa using hz))
    rw [hz] at C
    clear hz
    go_enter Tryz.func267, Tryz.ntmps267
    go_wp2_with fail
    refine C.out.mono ?_
    rintro e w1 ⟨rfl, hb1⟩
    have B1 := Lib.hid hb1
    clear hb1
    go_wp2
    go_loopw [5] (fun v5 wr => ∃ k : Nat, k ≤ l.length ∧ v5 = .int .i64 k ∧ Sp.vfind p l = Sp.vfind p (l.drop k) ∧ Ext w wr) (fun v5 _ => l.length - (intOf v5).toNat)
    case atStart => exact ⟨0, Nat.zero_le _, rfl, rfl, B1.out⟩
    case round =>
      obtain ⟨k, hk, rfl, hv, hb⟩ := hrel
      by_cases hlt : k < l.length
      · obtain ⟨g, o, rfl, hc⟩ := (HH.out.ext hb).at (by omega)
        obtain ⟨c1, c2⟩ := hc k hlt
        rw [List.drop_eq_getElem_cons hlt, Sp.vfind] at hv
        have HV := Lib.hid hv
        clear hv hc
        go_wp2
        · go_ret
          exact ⟨ret_int (by rw [F.out, HV.out]; simp_all), hb⟩
        · go_roundw
          case rel => exact ⟨k + 1, by omega, by go_num, by rw [HV.out]; simp_all, hb⟩
          case measure => simp [intOf]; omega
      · obtain rfl : k = l.length := by omega
        rw [List.drop_length, Sp.vfind] at hv
        have HV := Lib.hid hv
        clear hv
        go_wp2
        go_ret
        exact ⟨ret_int (by rw [F.out, HV.out]), hb⟩
  · have F := Lib.hid (show Sp.vget l p = 0 from if_pos hz)
    have b2 : (Sp.vcheck l != 0) = true := by simpa using hz
    go_enter Tryz.func267, Tryz.ntmps267
    go_wp2_with fail
    refine C.out.mono ?_
    rintro e w1 ⟨rfl, hb1⟩
    go_wp2
    go_ret
    exact ⟨ret_int F.out.symm, hb1⟩
set_option maxRecDepth 100000 in
set_option maxHeartbeats 2000000 in
theorem rvhas_calls (l : List Sp.Dot) (A : Option Addr) (cap : Nat) (d : Sp.Dot) (w : World) (h : Dots w A l) (hl : l.length ≤ 140737488351232) :
    Calls Tryz.prog 232 #[.slice A l.length cap, dotV d] w fun e w' => e = .returned (.bool (Sp.vhas l d)) ∧ Ext w w' := by
  obtain ⟨W0, hW0⟩ : ∃ W0, W0 = w.alloc (.cells #[.int .i64 d.1, .int .i64 d.2] 68) := ⟨_, rfl⟩
  have HB := Lib.hid (show isBlk W0 w.heap.size 68 #[.int .i64 d.1, .int .i64 d.2] by rw [hW0]; exact box_at _ _ _)
  have E0 := Lib.hid (show Ext w W0 by rw [hW0]; exact Ext.alloc _ _)
  have G := Lib.hid fun W e => rvget_calls l A cap d.1 W (h.ext (E0.out.trans e)) hl
  have HW := Lib.hid hW0.symm
  clear hW0 h
  by_cases h1 : 1 ≤ d.2
  · have b1 : decide (1 ≤ d.2) = true := decide_eq_true h1
    have F := Lib.hid (show Sp.vhas l d = decide (d.2 ≤ Sp.vget l d.1) by unfold Sp.vhas; rw [b1]; rfl)
    clear h1
    go_enter Tryz.func232, Tryz.ntmps232
    go_wp2_with fail
    rw [HW.out]
    refine wp_region_det (fun W => Ext W0 W) (by kernel_rfl) (by kernel_rfl) (Below.refl _ _).drew ?_
    repeat (first
      | (refine det_step (fun K hK => ?_)
         apply Exists.intro
         refine ⟨Or.inl ⟨rfl, fun W hS => ?_⟩, ?_⟩
         · replace hS : Ext W0 W := hS
           have z := HB.out.below hS; have f0 := (z.cell 0).trans rfl; have f1 := (z.cell 1).trans rfl
           go_simp
           first
           | exact rfl
           | exact ⟨rfl, hS⟩
           | (refine (G.out W hS).mono ?_; rintro e w1 ⟨rfl, hb1⟩; exact ⟨rfl, hS.trans hb1⟩)
         go_simp
         refine hK _ ?_
         clear hK K)
      | (refine det_step (fun K hK => ?_); refine det_no' rfl ?_; go_simp; refine hK _ ?_; clear hK K))
    refine det_nil ?_
    intro W9 hS
    replace hS : Ext _ W9 := hS
    go_wp2
    go_ret
    exact ⟨by rw [F.out]; rfl, E0.out.trans hS⟩
  · have b1 : decide (1 ≤ d.2) = false := decide_eq_false h1
    have F := Lib.hid (show Sp.vhas l d = false by unfold Sp.vhas; rw [b1]; rfl)
    clear h1
    go_enter Tryz.func232, Tryz.ntmps232
    go_wp2_with fail
    rw [HW.out]
    refine wp_region_det (fun W => Ext W0 W) (by kernel_rfl) (by kernel_rfl) (Below.refl _ _).drew ?_
    repeat (first
      | (refine det_step (fun K hK => ?_)
         apply Exists.intro
         refine ⟨Or.inl ⟨rfl, fun W hS => ?_⟩, ?_⟩
         · replace hS : Ext W0 W := hS
           have z := HB.out.below hS; have f0 := (z.cell 0).trans rfl; have f1 := (z.cell 1).trans rfl
           go_simp
           first
           | exact rfl
           | exact ⟨rfl, hS⟩
           | (fail)
         go_simp
         refine hK _ ?_
         clear hK K)
      | (refine det_step (fun K hK => ?_); refine det_no' rfl ?_; go_simp; refine hK _ ?_; clear hK K))
    refine det_nil ?_
    intro W9 hS
    replace hS : Ext _ W9 := hS
    go_wp2
    go_ret
    exact ⟨by rw [F.out]; rfl, E0.out.trans hS⟩
set_option maxRecDepth 100000 in
set_option maxHeartbeats 2000000 in
theorem rvsame_calls (l m : List Sp.Dot) (A B : Option Addr) (cap cap' : Nat) (w : World) (h : Dots w A l) (hl : l.length ≤ 140737488351232) (h' : Dots w B m) (hl' : m.length ≤ 140737488351232) :
    Calls Tryz.prog 155 #[.slice A l.length cap, .slice B m.length cap'] w fun e w' => e = .returned (.bool (decide (l = m))) ∧ Ext w w' := by
  by_cases hlm : l.length = m.length
  · have b0 : ((l.length : Int) == (m.length : Int)) = true := by rw [hlm]; simp
    have b1 : ((l.length : Int) != (m.length : Int)) = false := by rw [hlm]; simp
    have HL := Lib.hid hlm
    clear hlm
    go_enter Tryz.func155, Tryz.ntmps155
    go_wp2
    go_loopw [5] (fun v13 wr => ∃ k : Nat, k ≤ l.length ∧ v13 = .int .i64 k ∧ decide (l = m) = decide (l.drop k = m.drop k) ∧ Ext w wr) (fun v13 _ => l.length - (intOf v13).toNat)
    case atStart => exact ⟨0, Nat.zero_le _, rfl, rfl, Ext.refl _⟩
    case round =>
      obtain ⟨k, hk, rfl, hv, hb⟩ := hrel
      by_cases hlt : k < l.length
      · have hlt' : k < m.length := by have := HL.out; omega
        obtain ⟨g, o, rfl, hc⟩ := (h.ext hb).at (by omega)
        obtain ⟨g', o', rfl, hc'⟩ := (h'.ext hb).at (by omega)
        obtain ⟨c1, c2⟩ := hc k hlt
        obtain ⟨d1, d2⟩ := hc' k hlt'
        rw [Sp.beq_drop l m k hlt hlt'] at hv
        have HV := Lib.hid hv
        clear hv hc hc'
        go_wp2_with fail
        have hg := dot_guard
        have hq := deq_in l[k] m[k]
        refine wp_region_det (fun W => Ext wr W) (by kernel_rfl) (by kernel_rfl) (Below.refl _ _).drew ?_
        repeat (first
          | (refine det_step (fun K hK => ?_)
             apply Exists.intro
             refine ⟨Or.inl ⟨rfl, fun W hS => ?_⟩, ?_⟩
             · replace hS : Ext wr W := hS
               have f1 := hS.cell c1; have f2 := hS.cell c2; have f3 := hS.cell d1; have f4 := hS.cell d2
               go_simp
               first
               | exact rfl
               | exact ⟨rfl, hS⟩
               | (fail)
             go_simp
             refine hK _ ?_
             clear hK K)
          | (refine det_step (fun K hK => ?_); refine det_no' rfl ?_; go_simp; refine hK _ ?_; clear hK K))
        refine det_nil ?_
        intro W9 hS
        replace hS : Ext _ W9 := hS
        clear hg hq
        go_wp2
        · go_ret
          refine ⟨?_, hb.trans hS⟩
          have := HV.out
          simp_all
        · go_roundw
          case rel =>
            refine ⟨k + 1, by omega, by go_num, ?_, hb.trans hS⟩
            have := HV.out
            simp_all
          case measure => simp [intOf]; omega
      · obtain rfl : k = l.length := by omega
        have HV := Lib.hid hv
        clear hv
        go_wp2
        go_ret
        exact ⟨by rw [HV.out, List.drop_length, HL.out, List.drop_length]; rfl, hb⟩
  · have b0 : ((l.length : Int) == (m.length : Int)) = false := by rw [beq_eq_false_iff_ne]; omega
    have b1 : ((l.length : Int) != (m.length : Int)) = true := by rw [bne_iff_ne]; omega
    have F := Lib.hid (show decide (l = m) = false by rw [decide_eq_false_iff_not]; rintro rfl; exact hlm rfl)
    clear hlm
    go_enter Tryz.func155, Tryz.ntmps155
    go_wp2
    go_ret
    exact ⟨by rw [F.out]; rfl, Ext.refl _⟩
end Go.Proofs.YtmlfnidckfeebaaGreatDoor
namespace Go.Proofs.YtmlfnidckfeebaaGreatDoor
open Go.RowKit Go.Shelf
attribute [local go_sem] yUpon
namespace Sp
end Sp
set_option maxRecDepth 100000 in
set_option maxHeartbeats 4000000 in
theorem rsamever_calls (a b : Sp.Ver) (A B : Option Addr) (cap cap' : Nat) (w : World) (h : Past w A a) (h' : Past w B b) :
    Calls Tryz.prog 85 #[verV A cap a, verV B cap' b] w fun e w' => e = .returned (.bool (decide (a = b))) ∧ Ext w w' := by
  have C := Lib.hid fun W (e : Ext w W) => rvsame_calls a.past b.past A B cap cap' W (h.1.ext e) h.2 (h'.1.ext e) h'.2
  have F := Lib.hid (Sp.ver_eq a b)
  have tl := strOf_toList a.data
  have tl' := strOf_toList b.data
  have hg := dot_guard
  have hq := deq_in a.dot b.dot
  clear h h'
  by_cases h1 : a.dot = b.dot
  · by_cases h2 : a.dead = b.dead
    · by_cases h3 : a.data = b.data
      · have q1 : decide (a.dot = b.dot) = true := decide_eq_true h1
        have q2 : (a.dead == b.dead) = true := by simpa using h2
        have q3 : (a.data == b.data) = true := by simpa using h3
        rw [q1, q2, q3] at F
        clear h1 h2 h3
        go_enter Tryz.func85, Tryz.ntmps85
        go_wp2_with (go_at_call 155; refine (C.out _ ((Ext.alloc _ _).trans (Ext.alloc _ _))).mono ?_; rintro e w1 ⟨rfl, hb1⟩)
        go_ret
        exact ⟨by rw [F.out]; rfl, ((Ext.alloc _ _).trans (Ext.alloc _ _)).trans hb1⟩
      · have q1 : decide (a.dot = b.dot) = true := decide_eq_true h1
        have q2 : (a.dead == b.dead) = true := by simpa using h2
        have q3 : (a.data == b.data) = false := by simpa using h3
        rw [q1, q2, q3] at F
        clear h1 h2 h3
        go_enter Tryz.func85, Tryz.ntmps85
        go_wp2_with fail
        go_ret
        exact ⟨by rw [F.out]; rfl, (Ext.alloc _ _).trans (Ext.alloc _ _)⟩
    · have q1 : decide (a.dot = b.dot) = true := decide_eq_true h1
      have q2 : (a.dead == b.dead) = false := by simpa using h2
      rw [q1, q2] at F
      clear h1 h2
      go_enter Tryz.func85, Tryz.ntmps85
      go_wp2_with fail
      go_ret
      exact ⟨by rw [F.out]; rfl, (Ext.alloc _ _).trans (Ext.alloc _ _)⟩
  · have q1 : decide (a.dot = b.dot) = false := decide_eq_false h1
    rw [q1] at F
    clear h1
    go_enter Tryz.func85, Tryz.ntmps85
    go_wp2_with fail
    go_ret
    exact ⟨by rw [F.out]; rfl, (Ext.alloc _ _).trans (Ext.alloc _ _)⟩
set_option maxRecDepth 100000 in
set_option maxHeartbeats 4000000 in
theorem rlive_calls (l : List Sp.Ver) (A : Option Addr) (cap : Nat) (w : World) (h : Vers w A l) (hl : l.length ≤ 1000000) : Calls Tryz.prog 114 #[.slice A l.length cap] w (ToldVers w (Sp.live l)) := by
  go_enter Tryz.func114, Tryz.ntmps114
  go_wp2
  go_loopw [3, 4] (fun v3 v8 wr => ∃ k : Nat, k ≤ l.length ∧ v8 = .int .i64 k ∧ (∃ m : List (Option Addr × Nat × Sp.Ver), m.map (·.2.2) = Sp.live (l.take k) ∧ wr.ownsRow w.heap.size 71 5 v3 m.length (versC m) ∧ ∀ x ∈ m, Past w x.1 x.2.2) ∧ Ext w wr) (fun _ v8 _ => l.length - (intOf v8).toNat)
  case atStart => exact ⟨0, Nat.zero_le _, rfl, ⟨[], rfl, ⟨rfl, .inl ⟨rfl, rfl⟩⟩, fun _ h => by cases h⟩, Ext.refl _⟩
  case round =>
    obtain ⟨k, hk, rfl, ⟨m, hm, hown, hp⟩, hb⟩ := hrel
    by_cases hlt : k < l.length
    · obtain ⟨g, o, rfl, hc0⟩ := h.at (by omega)
      obtain ⟨A', c', hvc, hpast⟩ := hc0 k hlt
      obtain ⟨c0, c1, c2, c3, c4⟩ := hvc.ext hb
      have HC := Lib.hid hpast
      have HP := Lib.hid hp
      have ml : m.length ≤ k := by
        have := congrArg List.length hm
        rw [List.length_map] at this
        rw [this]
        unfold Sp.live
        exact Nat.le_trans (List.length_filter_le _ _) (List.length_take_le _ _)
      have st : Sp.live (l.take (k + 1)) = Sp.live (l.take k) ++ if l[k].dead then [] else [l[k]] := by
        unfold Sp.live
        rw [List.take_succ_eq_append_getElem hlt, List.filter_append]
        cases hh : l[k].dead <;> simp [hh]
      have HM := Lib.hid hm
      have HO := Lib.hid hown
      clear hm hown hp hvc hpast hc0
      by_cases hd : l[k].dead = true
      · rw [hd] at c3
        rw [if_pos hd, List.append_nil] at st
        have ST := Lib.hid st
        clear st
        go_wp2_with fail
        go_roundw
        case rel => exact ⟨k + 1, by omega, by go_num, ⟨m, by rw [ST.out]; exact HM.out, HO.out, HP.out⟩, hb⟩
        case measure => simp [intOf]; omega
      · have hd' : l[k].dead = false := by simpa using hd
        rw [hd'] at c3
        rw [if_neg hd] at st
        have ST := Lib.hid st
        have HD := Lib.hid hd'
        clear st hd hd'
        go_wp2_with (at_builtin; refine app_new appVer rfl _ _ rfl w.heap.size _ m.length _ rfl (HO.out) #[.int .i64 l[k].dot.1, .int .i64 l[k].dot.2, .slice A' l[k].past.length c', .bool false, .string (strOf l[k].data)] 71 1 rfl rfl (by intro u hu; simp at hu; rcases hu with rfl | rfl | rfl | rfl | rfl <;> rfl) (by decide) (by omega) (hb.size) ?_; intro g6 cap6 w6 hown6 hgr6 hb6 hbg6; have O6 := Lib.hid hown6; have B6 := Lib.hid hb6; clear hown6 hgr6 hb6)
        go_roundw
        case rel =>
          refine ⟨k + 1, by omega, by go_num, ⟨m ++ [(A', c', l[k])], ?_, ?_, ?_⟩, B6.out.from hb⟩
          · rw [List.map_append, HM.out, ST.out]; rfl
          · rw [versC_append, List.length_append]
            have := O6.out
            simpa [versC, HD.out] using this
          · intro x hx
            rcases List.mem_append.1 hx with h1 | h1
            · exact HP.out x h1
            · obtain rfl := List.mem_singleton.1 h1
              exact HC.out
        case measure => simp [intOf]; omega
    · obtain rfl : k = l.length := by omega
      rw [List.take_length] at hm
      have HM := Lib.hid hm
      clear hm
      go_wp2
      go_ret
      refine ⟨_, rfl, ⟨m, HM.out, ?_, fun x hx => (hp x hx).ext hb⟩, hb⟩
      rw [← HM.out, List.length_map]
      exact hown
end Go.Proofs.YtmlfnidckfeebaaGreatDoor
namespace Go.Proofs.YtmlfnidckfeebaaGreatDoor
open Go.RowKit
theorem conv_one (c : UInt8) (W : World) : (convert 172 9 (.slice (some ⟨W.heap.size, 0, none⟩) 1 1)).run Tryz.prog (W.alloc (.cells #[.int .u8 c.toNat] 5 (0, 0))) = .ok (.string (strOf [c])) (W.alloc (.cells #[.int .u8 c.toNat] 5 (0, 0))) :=
  conv_cells Tryz.underlying172 Tryz.underlying5 Tryz.underlying9 W.heap.size 0 1 [c] (fun i hi => by
    obtain rfl : i = 0 := by simpa using hi
    rw [cell_of_row _ W.heap.size 0 _ _ (0, 0) (heap_alloc_new W _)]; rfl)
theorem conv_one' (c : UInt8) (W : World) : (convert 172 9 (.slice (some ⟨W.heap.size, 0, none⟩) 1 1)).run Tryz.prog (W.alloc (.cells #[.int .u8 c.toNat] 5 (0, 0))).drew = .ok (.string (strOf [c])) (W.alloc (.cells #[.int .u8 c.toNat] 5 (0, 0))).drew :=
  conv_cells Tryz.underlying172 Tryz.underlying5 Tryz.underlying9 W.heap.size 0 1 [c] (fun i hi => by
    obtain rfl : i = 0 := by simpa using hi
    exact (cell_of_row (W.alloc _) W.heap.size 0 _ _ (0, 0) (heap_alloc_new W _)).trans rfl)
theorem conv_later (c : UInt8) (W W1 : World) (hb : Below (W.alloc (.cells #[.int .u8 c.toNat] 5 (0, 0))).drew.heap.size (W.alloc (.cells #[.int .u8 c.toNat] 5 (0, 0))).drew W1) :
    (convert 172 9 (.slice (some ⟨W.heap.size, 0, none⟩) 1 1)).run Tryz.prog W1 = .ok (.string (strOf [c])) W1 :=
  conv_cells Tryz.underlying172 Tryz.underlying5 Tryz.underlying9 W.heap.size 0 1 [c] (fun i hi => by
    obtain rfl : i = 0 := by simpa using hi
    exact cellKept (W := (W.alloc (.cells #[.int .u8 c.toNat] 5 (0, 0))).drew) ((cell_of_row (W.alloc (.cells #[.int .u8 c.toNat] 5 (0, 0))) W.heap.size 0 _ _ (0, 0) (heap_alloc_new W _)).trans (by simp [byteV])) hb)
set_option maxRecDepth 100000 in
set_option maxHeartbeats 2000000 in
theorem rput_small (n : Nat) (w : World) (h : n < 128) : Calls Tryz.prog 196 #[.int .i64 n] w fun e w' => e = .returned (.string (strOf (Sp.cput n))) ∧ Below w.heap.size w w' := by
  obtain ⟨c, hc⟩ : ∃ c : UInt8, c = UInt8.ofNat n := ⟨_, rfl⟩
  have F := Lib.hid (show strOf [c] = strOf (Sp.cput n) by rw [Sp.cput.eq_def n, if_pos h, hc])
  have t3 : IntKind.u8.wrap (n : Int) = (c.toNat : Int) := by rw [IntKind.wrap_u8, hc]; simp
  have e1 : decide ((n : Int) < 128) = true := by rw [decide_eq_true_iff]; omega
  have e2 : decide ((n : Int) < 0) = false := by simp
  have e3 : decide ((1073741824 : Int) < (n : Int)) = false := by rw [decide_eq_false_iff_not]; omega
  have cv0 := conv_one c
  clear hc h
  go_enter Tryz.func196, Tryz.ntmps196
  go_wp2_with fail
  go_ret
  exact ⟨by rw [← F.out]; rfl, (Below.refl _ _).alloc (Nat.le_refl _) _⟩
set_option maxRecDepth 100000 in
set_option maxHeartbeats 2000000 in
theorem rput_nat : ∀ (m n : Nat) (w : World), n ≤ m → n ≤ 1073741824 →
    Calls Tryz.prog 196 #[.int .i64 n] w fun e w' => e = .returned (.string (strOf (Sp.cput n))) ∧ Below w.heap.size w w' := by
  intro m
  induction m with
  | zero =>
    intro n w hn hb
    exact rput_small n w (by omega)
  | succ m ih =>
    intro n w hn hb
    by_cases h : n < 128
    · exact rput_small n w h
    · have e1 : decide ((n : Int) < 128) = false := by rw [decide_eq_false_iff_not]; omega
      obtain ⟨c, hc⟩ : ∃ c : UInt8, c = UInt8.ofNat (n % 128 + 128) := ⟨_, rfl⟩
      have F := Lib.hid (show strOf [c] ++ strOf (Sp.cput (n / 128)) = strOf (Sp.cput n) by rw [strOf_append, strOf_data, Sp.cput.eq_def n, if_neg h, hc]; rfl)
      have IH := Lib.hid (show ∀ W : World, Calls Tryz.prog 196 #[.int .i64 ((n : Int) / 128)] W fun e w' => e = .returned (.string (strOf (Sp.cput (n / 128)))) ∧ Below W.heap.size W w' by
        intro W; rw [show (n : Int) / 128 = ((n / 128 : Nat) : Int) by omega]; exact ih (n / 128) W (by omega) (by omega))
      have t1 : (n : Int).tmod 128 = (n : Int) % 128 := Int.tmod_eq_emod_of_nonneg (Int.natCast_nonneg _)
      have t2 : IntKind.i64.wrap ((n : Int) % 128 + 128) = (n : Int) % 128 + 128 := IntWalk.i64_in _ (by omega)
      have t3 : IntKind.u8.wrap ((n : Int) % 128 + 128) = (c.toNat : Int) := by rw [IntKind.wrap_u8, hc]; simp
      have t4 : IntKind.i64.wrap ((n : Int) / 128) = (n : Int) / 128 := IntWalk.i64_in _ (by omega)
      have t5 : (strOf [c]).size = 1 := strOf_size _
      have t6 : (strOf (Sp.cput (n / 128))).size ≤ 5 := by rw [strOf_size]; exact Sp.cput_len _ (by omega)
      have e2 : decide ((n : Int) < 0) = false := by simp
      have e3 : decide ((1073741824 : Int) < (n : Int)) = false := by rw [decide_eq_false_iff_not]; omega
      have cv0 := conv_one c
      have cv1 := conv_one' c
      clear hc
      go_enter Tryz.func196, Tryz.ntmps196
      go_wp2_with fail
      go_region_with (first
        | (go_at_call 196; refine (IH.out _).mono ?_; rintro e w1 ⟨rfl, hb1⟩; first | have cv2 := conv_later _ _ _ hb1 | skip))
      all_goals
        go_wp2_with fail
        go_ret
        refine ⟨by rw [← F.out]; rfl, ?_⟩
        first
        | exact hb1.alloc hb1.size _
        | exact (((Below.refl _ w).alloc (Nat.le_refl _) (.cells #[.int .u8 c.toNat] 5 (0, 0))).drew).trans (hb1.mono (by simp))
        | exact ((Below.refl _ w).drew.trans hb1).alloc hb1.size _
theorem rput_calls (n : Int) (w : World) : Calls Tryz.prog 196 #[.int .i64 n] w fun e w' => e = .returned (.string (strOf (Sp.put n))) ∧ Below w.heap.size w w' := by
  by_cases h : 0 ≤ n ∧ n ≤ 1073741824
  · have := rput_nat n.toNat n.toNat w (Nat.le_refl _) (by omega)
    rw [show ((n.toNat : Nat) : Int) = n by omega] at this
    rwa [show Sp.put n = Sp.cput n.toNat by unfold Sp.put; rw [if_pos h]]
  · have F := Lib.hid (show strOf (Sp.put n) = strOf [] by unfold Sp.put; rw [if_neg h])
    by_cases h0 : n < 0
    · have e1 : decide (n < 0) = true := decide_eq_true h0
      clear h h0
      go_enter Tryz.func196, Tryz.ntmps196
      go_wp2_with fail
      go_ret
      exact ⟨by rw [F.out]; rfl, Below.refl _ _⟩
    · have e1 : decide (n < 0) = false := decide_eq_false h0
      have e2 : decide (1073741824 < n) = true := decide_eq_true (by omega)
      clear h h0
      go_enter Tryz.func196, Tryz.ntmps196
      go_wp2_with fail
      go_ret
      exact ⟨by rw [F.out]; rfl, Below.refl _ _⟩
end Go.Proofs.YtmlfnidckfeebaaGreatDoor
namespace Go.Proofs.YtmlfnidckfeebaaGreatDoor
open Go.RowKit
set_option maxRecDepth 100000 in
set_option maxHeartbeats 2000000 in
theorem rwfail_calls (g : Nat) (x : Sp.W) (e : Int) (w : World) (h : isRW w g x) :
    Calls Tryz.prog 136 #[.pointer (some ⟨g, 0, none⟩), .int .i64 e] w fun e' w' => e' = .returned (.tuple #[]) ∧ isRW w' g (Sp.wfail e x) ∧ Only g w w' := by
  have c1 := (h.cell 1).trans rfl
  have f1 := h.frozen 1
  by_cases h0 : x.2 = 0
  · have F := Lib.hid (show Sp.wfail e x = (x.1, e) from if_pos h0)
    have S := Lib.hid (isRW.set x w g h x.1 e).2
    rw [h0] at c1
    clear h h0
    go_enter Tryz.func136, Tryz.ntmps136
    go_wp2_with fail
    go_end0
    exact ⟨rfl, by rw [F.out]; exact S.out, Only.set _ _ _ _⟩
  · have F := Lib.hid (show Sp.wfail e x = x from if_neg h0)
    have e1 : (x.2 == 0) = false := by simpa using h0
    have H := Lib.hid h
    clear h h0
    go_enter Tryz.func136, Tryz.ntmps136
    go_wp2_with fail
    go_end0
    exact ⟨rfl, by rw [F.out]; exact H.out, Only.refl _ _⟩
set_option maxRecDepth 100000 in
set_option maxHeartbeats 2000000 in
theorem rwput_calls (g : Nat) (x : Sp.W) (is : Bool) (l : List UInt8) (w : World) (h : isRW w g x) (hlen : x.1.length + l.length ≤ 140737488355328) :
    Calls Tryz.prog 195 #[.pointer (some ⟨g, 0, none⟩), .bool is, .string (strOf l)] w fun e' w' => e' = .returned (.tuple #[]) ∧ isRW w' g (Sp.wput is l x) ∧ Only g w w' := by
  have c0 := (h.cell 0).trans rfl
  have c1 := (h.cell 1).trans rfl
  have f0 := h.frozen 0
  have f1 := h.frozen 1
  by_cases h0 : x.2 = 0
  · rw [h0] at c1
    cases is with
    | false =>
      have F := Lib.hid (show Sp.wput false l x = (x.1, 2) by unfold Sp.wput; rw [if_neg (by simp [h0])]; rfl)
      have S := Lib.hid (isRW.set x w g h x.1 2).2
      clear h h0
      go_enter Tryz.func195, Tryz.ntmps195
      go_wp2_with fail
      go_end0
      exact ⟨rfl, by rw [F.out]; exact S.out, Only.set _ _ _ _⟩
    | true =>
      have F := Lib.hid (show Sp.wput true l x = (x.1 ++ l, 0) by unfold Sp.wput; rw [if_neg (by simp [h0])]; rfl)
      have S := Lib.hid (isRW.set x w g h (x.1 ++ l) 0).1
      rw [h0] at S
      have a1 : strOf x.1 ++ strOf l = strOf (x.1 ++ l) := by rw [strOf_append, strOf_data]
      have s1 : (strOf x.1).size = x.1.length := strOf_size _
      have s2 : (strOf l).size = l.length := strOf_size _
      clear h h0
      go_enter Tryz.func195, Tryz.ntmps195
      go_wp2_with fail
      go_end0
      exact ⟨rfl, by rw [F.out]; exact S.out, Only.set _ _ _ _⟩
  · have F := Lib.hid (show Sp.wput is l x = x by unfold Sp.wput; rw [if_pos (by simpa using h0)])
    have e1 : (x.2 == 0) = false := by simpa using h0
    have e2 : (x.2 != 0) = true := by simpa using h0
    have H := Lib.hid h
    clear h h0
    go_enter Tryz.func195, Tryz.ntmps195
    go_wp2_with fail
    refine bodyPost_ret (results_none rfl _ _ _) rfl ?_
    exact ⟨rfl, by rw [F.out]; exact H.out, Only.refl _ _⟩
set_option maxRecDepth 100000 in
set_option maxHeartbeats 2000000 in
theorem rwnum_calls (g : Nat) (x : Sp.W) (n : Int) (w : World) (h : isRW w g x) (hlen : x.1.length ≤ 100000000000000) :
    Calls Tryz.prog 127 #[.pointer (some ⟨g, 0, none⟩), .int .i64 n] w fun e' w' => e' = .returned (.tuple #[]) ∧ isRW w' g (Sp.wnum n x) ∧ Only g w w' := by
  have P := Lib.hid (rput_calls n w)
  have PU := Lib.hid fun (W : World) (hb : Below w.heap.size w W) => rwput_calls g x (decide (0 ≤ n ∧ n ≤ 1073741824)) (Sp.put n) W (h.below hb) (by have := Sp.put_len n; omega)
  have F := Lib.hid (show Sp.wnum n x = Sp.wput (decide (0 ≤ n ∧ n ≤ 1073741824)) (Sp.put n) x from rfl)
  by_cases h0 : 0 ≤ n
  · have e0 : decide (0 ≤ n) = true := decide_eq_true h0
    rw [show decide (0 ≤ n ∧ n ≤ 1073741824) = decide (n ≤ 1073741824) by rw [decide_eq_decide]; omega] at F PU
    obtain ⟨b, hb⟩ : ∃ b, decide (n ≤ 1073741824) = b := ⟨_, rfl⟩
    rw [hb] at F PU
    clear h h0
    go_enter Tryz.func127, Tryz.ntmps127
    go_wp2_with (first
      | (go_at_call 196; refine P.out.mono ?_; rintro e w1 ⟨rfl, hb1⟩)
      | (go_at_call 195; refine (PU.out w1 hb1).mono ?_; rintro e w2 ⟨rfl, hw2, ho2⟩))
    go_end0
    exact ⟨rfl, by rw [F.out]; exact hw2, (Only.of_below g hb1).trans ho2⟩
  · have e0 : decide (0 ≤ n) = false := decide_eq_false h0
    rw [show decide (0 ≤ n ∧ n ≤ 1073741824) = false by rw [decide_eq_false_iff_not]; omega] at F PU
    clear h h0
    go_enter Tryz.func127, Tryz.ntmps127
    go_wp2_with (first
      | (go_at_call 196; refine P.out.mono ?_; rintro e w1 ⟨rfl, hb1⟩)
      | (go_at_call 195; refine (PU.out w1 hb1).mono ?_; rintro e w2 ⟨rfl, hw2, ho2⟩))
    go_end0
    exact ⟨rfl, by rw [F.out]; exact hw2, (Only.of_below g hb1).trans ho2⟩
set_option maxRecDepth 100000 in
set_option maxHeartbeats 2000000 in
theorem rwtext_calls (g : Nat) (x : Sp.W) (s : ByteArray) (w : World) (h : isRW w g x) (hlen : x.1.length ≤ 100000000000000) (hs : s.size < 4294967200) :
    Calls Tryz.prog 197 #[.pointer (some ⟨g, 0, none⟩), .string s] w fun e' w' => e' = .returned (.tuple #[]) ∧ isRW w' g (Sp.wtext s.data.toList x) ∧ Only g w w' := by
  have P := Lib.hid (rput_calls (s.size : Int) w)
  have hdl : s.data.toList.length = s.size := by simp
  have hp := Sp.put_len (s.size : Int)
  have PU := Lib.hid fun (W : World) (hb : Below w.heap.size w W) => rwput_calls g x (decide ((s.size : Int) ≤ 65536)) (Sp.put (s.size : Int) ++ s.data.toList) W (h.below hb) (by rw [List.length_append]; omega)
  have F := Lib.hid (show Sp.wtext s.data.toList x = Sp.wput (decide ((s.size : Int) ≤ 65536)) (Sp.put (s.size : Int) ++ s.data.toList) x by
    unfold Sp.wtext; rw [hdl, show decide ((s.size : Int) ≤ 65536) = decide (s.size ≤ 65536) by rw [decide_eq_decide]; omega])
  have a1 : strOf (Sp.put (s.size : Int)) ++ s = strOf (Sp.put (s.size : Int) ++ s.data.toList) := by
    have := strOf_append (strOf (Sp.put (s.size : Int))) s.data.toList
    rwa [strOf_self, strOf_data] at this
  have s1 : (strOf (Sp.put (s.size : Int))).size ≤ 5 := by rw [strOf_size]; exact hp
  obtain ⟨p, hpp⟩ : ∃ p, p = strOf (Sp.put (s.size : Int)) := ⟨_, rfl⟩
  rw [← hpp] at a1 s1 P
  obtain ⟨b, hb⟩ : ∃ b, decide ((s.size : Int) ≤ 65536) = b := ⟨_, rfl⟩
  rw [hb] at F PU
  clear h hdl hp hpp
  go_enter Tryz.func197, Tryz.ntmps197
  go_wp2_with (first
    | (go_at_call 196; refine P.out.mono ?_; rintro e w1 ⟨rfl, hb1⟩)
    | (go_at_call 195; refine (PU.out w1 hb1).mono ?_; rintro e w2 ⟨rfl, hw2, ho2⟩))
  go_end0
  exact ⟨rfl, by rw [F.out]; exact hw2, (Only.of_below g hb1).trans ho2⟩
set_option maxRecDepth 100000 in
set_option maxHeartbeats 1000000 in
theorem rwdone_calls (g : Nat) (x : Sp.W) (w : World) (h : isRW w g x) :
    Calls Tryz.prog 130 #[.pointer (some ⟨g, 0, none⟩)] w fun e' w' => e' = .returned (.tuple #[.string (strOf (Sp.wdone x).1), .int .i64 (Sp.wdone x).2]) ∧ Below w.heap.size w w' := by
  have c0 := (h.cell 0).trans rfl
  have c1 := (h.cell 1).trans rfl
  by_cases h1 : x.2 = 0
  · have F := Lib.hid (show Sp.wdone x = (x.1, 0) from if_pos h1)
    rw [h1] at c1
    clear h h1
    go_enter Tryz.func130, Tryz.ntmps130
    go_wp2_with fail
    first | (have mixed : Tryz.prog.follows .mixedOrders = true := by kernel_rfl
             go_region_o) | skip
    all_goals
      go_wp2_with fail
      go_ret2
      exact ⟨by rw [F.out]; rfl, Below.refl _ _⟩
  · have F := Lib.hid (show Sp.wdone x = ([], x.2) from if_neg h1)
    have e1 : (x.2 == 0) = false := by simpa using h1
    clear h h1
    go_enter Tryz.func130, Tryz.ntmps130
    go_wp2_with fail
    have mixed : Tryz.prog.follows .mixedOrders = true := by kernel_rfl
    go_region_o
    all_goals
      go_wp2_with fail
      go_ret2
      exact ⟨by rw [F.out]; rfl, (Below.refl _ _).drew⟩
end Go.Proofs.YtmlfnidckfeebaaGreatDoor
