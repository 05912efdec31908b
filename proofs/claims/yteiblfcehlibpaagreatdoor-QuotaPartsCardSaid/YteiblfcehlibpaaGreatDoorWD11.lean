/- Walks: the reference's vectors. Walks: versions that are the same; those that live. -/
import Derived.Test.YteiblfcehlibpaaGreatDoorWD09
import Derived.Test.YteiblfcehlibpaaGreatDoorWD10
namespace Go.Proofs.YteiblfcehlibpaaGreatDoor
open Go.RowKit
attribute [local go_sem] yUpon
namespace Sp
def vlast (l : List Dot) (k : Nat) : Int := if k = 0 then -1 else ((l[k - 1]?).map (·.1)).getD 0
theorem vgo_step (l : List Dot) (k : Nat) (h : k < l.length) : vgo (vlast l k) (l.drop k) = if dot l[k] ≠ 0 then dot l[k] else if l[k].1 ≤ vlast l k then 8 else vgo (vlast l (k + 1)) (l.drop (k + 1)) := by
  rw [List.drop_eq_getElem_cons h, vgo]
  have : vlast l (k + 1) = l[k].1 := by unfold vlast; rw [if_neg (by omega)]; simp [h]
  rw [this]
theorem vlast_pos (l : List Dot) (k : Nat) (h0 : 0 < k) (h : k - 1 < l.length) : vlast l k = l[k - 1].1 := by
  unfold vlast
  rw [if_neg (by omega), List.getElem?_eq_getElem h]
  rfl
end Sp
set_option maxRecDepth 100000 in
set_option maxHeartbeats 2000000 in
theorem rdot_calls (d : Sp.Dot) (w : World) : Calls Tryz.prog 150 #[dotV d] w fun e w' => e = .returned (.int .i64 (Sp.dot d)) ∧ Ext w w' := by
  go_enter Tryz.func150, Tryz.ntmps150
  go_wp2
  all_goals
    go_ret
    refine ⟨ret_int ?_, Ext.alloc _ _⟩
    unfold Sp.dot
    (repeat' split) <;> omega
set_option maxRecDepth 100000 in
set_option maxHeartbeats 4000000 in
theorem rvcheck_calls (l : List Sp.Dot) (A : Option Addr) (cap : Nat) (w : World) (h : Dots w A l) (hl : l.length ≤ 140737488351232) :
    Calls Tryz.prog 151 #[.slice A l.length cap] w fun e w' => e = .returned (.int .i64 (Sp.vcheck l)) ∧ Ext w w' := by
  go_enter Tryz.func151, Tryz.ntmps151
  go_wp2
  go_loopw [3] (fun v3 wr => ∃ k : Nat, k ≤ l.length ∧ v3 = .int .i64 k ∧ Sp.vcheck l = Sp.vgo (Sp.vlast l k) (l.drop k) ∧ Ext w wr) (fun v3 _ => l.length - (intOf v3).toNat)
  case atStart => exact ⟨0, Nat.zero_le _, rfl, rfl, Ext.refl _⟩
  case round =>
    obtain ⟨k, hk, rfl, hv, hb⟩ := hrel
    by_cases hlt : k < l.length
    · obtain ⟨g, o, rfl, hc⟩ := (h.ext hb).at (by omega)
      obtain ⟨c1, c2⟩ := hc k hlt
      have HC := Lib.hid hc
      rw [Sp.vgo_step l k hlt] at hv
      have HV := Lib.hid hv
      clear hv hc
      go_wp2_with fail
      refine (rdot_calls l[k] wr).mono ?_
      rintro e w1 ⟨rfl, hb1⟩
      have B1 := Lib.hid hb1
      have f0 := hb1.cell c1
      clear hb1 c1 c2
      by_cases hz : Sp.dot l[k] = 0
      · have b2 : (Sp.dot l[k] != 0) = false := by simpa using hz
        by_cases h0 : k = 0
        · subst h0
          have b3 : decide ((0 : Int) < 0) = false := by decide
          go_wp2_with fail
          refine wp_region_det (fun W => Ext w1 W) (by kernel_rfl) (by kernel_rfl) (Below.refl _ _).drew ?_
          repeat (first
            | (refine det_step (fun K hK => ?_)
               apply Exists.intro
               refine ⟨Or.inl ⟨rfl, fun W hS => ?_⟩, ?_⟩
               · replace hS : Ext w1 W := hS
                 skip
                 go_simp
                 first
                 | exact rfl
                 | exact ⟨rfl, hS⟩
                 | (fail)
               go_simp
               refine hK _ ?_
               clear hK K)
            | (refine det_step (fun K hK => ?_); refine det_no' rfl ?_; go_simp; refine hK _ ?_; clear hK K))
          refine det_nil ?_
          intro W9 hS
          replace hS : Ext _ W9 := hS
          go_wp2_with fail
          have hp := (Sp.dot_ok.1 hz).1
          go_roundw
          case rel => exact ⟨1, by omega, rfl, by rw [HV.out, if_neg (by simpa using hz), if_neg (by show ¬ _ ≤ (-1 : Int); omega)], hb.trans (B1.out.trans hS)⟩
          case measure => simp [intOf]; omega
        · have b3 : decide (0 < k) = true := by rw [decide_eq_true_iff]; omega
          have h0' : 0 < k := by omega
          obtain ⟨d0, d1⟩ := HC.out (k - 1) (by omega)
          have w1' : IntKind.i64.wrap ((k : Int) - 1) = (k : Int) - 1 := IntWalk.i64_in _ (by omega)
          have i1 : (0 : Int) ≤ (k : Int) - 1 := by omega
          have i2 : (k : Int) - 1 < l.length := by omega
          have i4 : (1 : Int) ≤ k := by omega
          have i5 : 1 ≤ k := by omega
          have i3 : ((k : Int) - 1).toNat = k - 1 := by omega
          have e0 := B1.out.cell d0
          have VL := Lib.hid (Sp.vlast_pos l k h0' (by omega))
          clear d0 d1
          go_wp2_with fail
          refine wp_region_det (fun W => Ext w1 W) (by kernel_rfl) (by kernel_rfl) (Below.refl _ _).drew ?_
          repeat (first
            | (refine det_step (fun K hK => ?_)
               apply Exists.intro
               refine ⟨Or.inl ⟨rfl, fun W hS => ?_⟩, ?_⟩
               · replace hS : Ext w1 W := hS
                 have f1 := hS.cell e0; have f2 := hS.cell f0
                 go_simp
                 first
                 | exact rfl
                 | exact ⟨rfl, hS⟩
                 | (fail)
               go_simp
               refine hK _ ?_
               clear hK K)
            | (refine det_step (fun K hK => ?_); refine det_no' rfl ?_; go_simp; refine hK _ ?_; clear hK K))
          refine det_nil ?_
          intro W9 hS
          replace hS : Ext _ W9 := hS
          go_wp2_with fail
          · go_ret
            have hle : l[k].1 ≤ l[k - 1].1 := by assumption
            exact ⟨ret_int (by rw [HV.out, if_neg (by simpa using hz), VL.out, if_pos hle]), hb.trans (B1.out.trans hS)⟩
          · have hgt : ¬ l[k].1 ≤ l[k - 1].1 := by omega
            go_roundw
            case rel => exact ⟨k + 1, by omega, by go_num, by rw [HV.out, if_neg (by simpa using hz), VL.out, if_neg hgt], hb.trans (B1.out.trans hS)⟩
            case measure => simp [intOf]; omega
      · have b2 : (Sp.dot l[k] != 0) = true := by simpa using hz
        go_wp2_with fail
        go_ret
        exact ⟨ret_int (by rw [HV.out, if_pos hz]), hb.trans B1.out⟩
    · obtain rfl : k = l.length := by omega
      rw [List.drop_length, Sp.vgo] at hv
      have HV := Lib.hid hv
      clear hv
      go_wp2
      go_ret
      exact ⟨ret_int HV.out.symm, hb⟩
set_option maxRecDepth 100000 in
set_option maxHeartbeats 4000000 in
theorem rvget_calls (l : List Sp.Dot) (A : Option Addr) (cap : Nat) (p : Int) (w : World) (h : Dots w A l) (hl : l.length ≤ 140737488351232) :
    Calls Tryz.prog 188 #[.slice A l.length cap, .int .i64 p] w fun e w' => e = .returned (.int .i64 (Sp.vget l p)) ∧ Ext w w' := by
  have C := Lib.hid (rvcheck_calls l A cap w h hl)
  have HH := Lib.hid h
  clear h
  by_cases hz : Sp.vcheck l = 0
  · have F := Lib.hid (show Sp.vget l p = Sp.vfind p l from if_neg (by simpa using hz))
    rw [hz] at C
    clear hz
    go_enter Tryz.func188, Tryz.ntmps188
    go_wp2_with fail
    refine C.out.mono ?_
    rintro e w1 ⟨rfl, hb1⟩
    have B1 := Lib.hid hb1
    clear hb1
    go_wp2
    go_loopw [5] (fun v5 wr => ∃ k : Nat, k ≤ l.length ∧ v5 = .int .i64 k ∧ Sp.vfind p l = Sp.vfind p (l.drop k) ∧ Ext w wr) (fun v5 _ => l.length - (intOf v5).toNat)
    case atStart => exact ⟨0, Nat.zero_le _, rfl, rfl, B1.out⟩
    case round =>
      obtain ⟨k, hk, rfl, hv, hb⟩ := hrel
      by_cases hlt : k < l.length
      · obtain ⟨g, o, rfl, hc⟩ := (HH.out.ext hb).at (by omega)
        obtain ⟨c1, c2⟩ := hc k hlt
        rw [List.drop_eq_getElem_cons hlt, Sp.vfind] at hv
        have HV := Lib.hid hv
        clear hv hc
        go_wp2
        · go_ret
          exact ⟨ret_int (by rw [F.out, HV.out]; simp_all), hb⟩
        · go_roundw
          case rel => exact ⟨k + 1, by omega, by go_num, by rw [HV.out]; simp_all, hb⟩
          case measure => simp [intOf]; omega
      · obtain rfl : k = l.length := by omega
        rw [List.drop_length, Sp.vfind] at hv
        have HV := Lib.hid hv
        clear hv
        go_wp2
        go_ret
        exact ⟨ret_int (by rw [F.out, HV.out]), hb⟩
  · have F := Lib.hid (show Sp.vget l p = 0 from if_pos hz)
    have b2 : (Sp.vcheck l != 0) = true := by simpa using hz
    go_enter Tryz.func188, Tryz.ntmps188
    go_wp2_with fail
    refine C.out.mono ?_
    rintro e w1 ⟨rfl, hb1⟩
    go_wp2
    go_ret
    exact ⟨ret_int F.out.symm, hb1⟩
set_option maxRecDepth 100000 in
set_option maxHeartbeats 2000000 in
theorem rvhas_calls (l : List Sp.Dot) (A : Option Addr) (cap : Nat) (d : Sp.Dot) (w : World) (h : Dots w A l) (hl : l.length ≤ 140737488351232) :
    Calls Tryz.prog 152 #[.slice A l.length cap, dotV d] w fun e w' => e = .returned (.bool (Sp.vhas l d)) ∧ Ext w w' := by
  obtain ⟨W0, hW0⟩ : ∃ W0, W0 = w.alloc (.cells #[.int .i64 d.1, .int .i64 d.2] 72) := ⟨_, rfl⟩
  have HB := Lib.hid (show isBlk W0 w.heap.size 72 #[.int .i64 d.1, .int .i64 d.2] by rw [hW0]; exact box_at _ _ _)
  have E0 := Lib.hid (show Ext w W0 by rw [hW0]; exact Ext.alloc _ _)
  have G := Lib.hid fun W e => rvget_calls l A cap d.1 W (h.ext (E0.out.trans e)) hl
  have HW := Lib.hid hW0.symm
  clear hW0 h
  by_cases h1 : 1 ≤ d.2
  · have b1 : decide (1 ≤ d.2) = true := decide_eq_true h1
    have F := Lib.hid (show Sp.vhas l d = decide (d.2 ≤ Sp.vget l d.1) by unfold Sp.vhas; rw [b1]; rfl)
    clear h1
    go_enter Tryz.func152, Tryz.ntmps152
    go_wp2_with fail
    rw [HW.out]
    refine wp_region_det (fun W => Ext W0 W) (by kernel_rfl) (by kernel_rfl) (Below.refl _ _).drew ?_
    repeat (first
      | (refine det_step (fun K hK => ?_)
         apply Exists.intro
         refine ⟨Or.inl ⟨rfl, fun W hS => ?_⟩, ?_⟩
         · replace hS : Ext W0 W := hS
           have z := HB.out.below hS; have f0 := (z.cell 0).trans rfl; have f1 := (z.cell 1).trans rfl
           go_simp
           first
           | exact rfl
           | exact ⟨rfl, hS⟩
           | (refine (G.out W hS).mono ?_; rintro e w1 ⟨rfl, hb1⟩; exact ⟨rfl, hS.trans hb1⟩)
         go_simp
         refine hK _ ?_
         clear hK K)
      | (refine det_step (fun K hK => ?_); refine det_no' rfl ?_; go_simp; refine hK _ ?_; clear hK K))
    refine det_nil ?_
    intro W9 hS
    replace hS : Ext _ W9 := hS
    go_wp2
    go_ret
    exact ⟨by rw [F.out]; rfl, E0.out.trans hS⟩
  · have b1 : decide (1 ≤ d.2) = false := decide_eq_false h1
    have F := Lib.hid (show Sp.vhas l d = false by unfold Sp.vhas; rw [b1]; rfl)
    clear h1
    go_enter Tryz.func152, Tryz.ntmps152
    go_wp2_with fail
    rw [HW.out]
    refine wp_region_det (fun W => Ext W0 W) (by kernel_rfl) (by kernel_rfl) (Below.refl _ _).drew ?_
    repeat (first
      | (refine det_step (fun K hK => ?_)
         apply Exists.intro
         refine ⟨Or.inl ⟨rfl, fun W hS => ?_⟩, ?_⟩
         · replace hS : Ext W0 W := hS
           have z := HB.out.below hS; have f0 := (z.cell 0).trans rfl; have f1 := (z.cell 1).trans rfl
           go_simp
           first
           | exact rfl
           | exact ⟨rfl, hS⟩
           | (fail)
         go_simp
         refine hK _ ?_
         clear hK K)
      | (refine det_step (fun K hK => ?_); refine det_no' rfl ?_; go_simp; refine hK _ ?_; clear hK K))
    refine det_nil ?_
    intro W9 hS
    replace hS : Ext _ W9 := hS
    go_wp2
    go_ret
    exact ⟨by rw [F.out]; rfl, E0.out.trans hS⟩
set_option maxRecDepth 100000 in
set_option maxHeartbeats 2000000 in
theorem rvsame_calls (l m : List Sp.Dot) (A B : Option Addr) (cap cap' : Nat) (w : World) (h : Dots w A l) (hl : l.length ≤ 140737488351232) (h' : Dots w B m) (hl' : m.length ≤ 140737488351232) :
    Calls Tryz.prog 125 #[.slice A l.length cap, .slice B m.length cap'] w fun e w' => e = .returned (.bool (decide (l = m))) ∧ Ext w w' := by
  by_cases hlm : l.length = m.length
  · have b0 : ((l.length : Int) == (m.length : Int)) = true := by rw [hlm]; simp
    have b1 : ((l.length : Int) != (m.length : Int)) = false := by rw [hlm]; simp
    have HL := Lib.hid hlm
    clear hlm
    go_enter Tryz.func125, Tryz.ntmps125
    go_wp2
    go_loopw [5] (fun v13 wr => ∃ k : Nat, k ≤ l.length ∧ v13 = .int .i64 k ∧ decide (l = m) = decide (l.drop k = m.drop k) ∧ Ext w wr) (fun v13 _ => l.length - (intOf v13).toNat)
    case atStart => exact ⟨0, Nat.zero_le _, rfl, rfl, Ext.refl _⟩
    case round =>
      obtain ⟨k, hk, rfl, hv, hb⟩ := hrel
      by_cases hlt : k < l.length
      · have hlt' : k < m.length := by have := HL.out; omega
        obtain ⟨g, o, rfl, hc⟩ := (h.ext hb).at (by omega)
        obtain ⟨g', o', rfl, hc'⟩ := (h'.ext hb).at (by omega)
        obtain ⟨c1, c2⟩ := hc k hlt
        obtain ⟨d1, d2⟩ := hc' k hlt'
        rw [Sp.beq_drop l m k hlt hlt'] at hv
        have HV := Lib.hid hv
        clear hv hc hc'
        go_wp2_with fail
        have hg := dot_guard
        have hq := deq_in l[k] m[k]
        refine wp_region_det (fun W => Ext wr W) (by kernel_rfl) (by kernel_rfl) (Below.refl _ _).drew ?_
        repeat (first
          | (refine det_step (fun K hK => ?_)
             apply Exists.intro
             refine ⟨Or.inl ⟨rfl, fun W hS => ?_⟩, ?_⟩
             · replace hS : Ext wr W := hS
               have f1 := hS.cell c1; have f2 := hS.cell c2; have f3 := hS.cell d1; have f4 := hS.cell d2
               go_simp
               first
               | exact rfl
               | exact ⟨rfl, hS⟩
               | (fail)
             go_simp
             refine hK _ ?_
             clear hK K)
          | (refine det_step (fun K hK => ?_); refine det_no' rfl ?_; go_simp; refine hK _ ?_; clear hK K))
        refine det_nil ?_
        intro W9 hS
        replace hS : Ext _ W9 := hS
        clear hg hq
        go_wp2
        · go_ret
          refine ⟨?_, hb.trans hS⟩
          have := HV.out
          simp_all
        · go_roundw
          case rel =>
            refine ⟨k + 1, by omega, by go_num, ?_, hb.trans hS⟩
            have := HV.out
            simp_all
          case measure => simp [intOf]; omega
      · obtain rfl : k = l.length := by omega
        have HV := Lib.hid hv
        clear hv
        go_wp2
        go_ret
        exact ⟨by rw [HV.out, List.drop_length, HL.out, List.drop_length]; rfl, hb⟩
  · have b0 : ((l.length : Int) == (m.length : Int)) = false := by rw [beq_eq_false_iff_ne]; omega
    have b1 : ((l.length : Int) != (m.length : Int)) = true := by rw [bne_iff_ne]; omega
    have F := Lib.hid (show decide (l = m) = false by rw [decide_eq_false_iff_not]; rintro rfl; exact hlm rfl)
    clear hlm
    go_enter Tryz.func125, Tryz.ntmps125
    go_wp2
    go_ret
    exact ⟨by rw [F.out]; rfl, Ext.refl _⟩
end Go.Proofs.YteiblfcehlibpaaGreatDoor
namespace Go.Proofs.YteiblfcehlibpaaGreatDoor
open Go.RowKit Go.Shelf
attribute [local go_sem] yUpon
namespace Sp
theorem ver_eq (a b : Ver) : decide (a = b) = (decide (a.dot = b.dot) && (a.dead == b.dead) && (a.data == b.data) && decide (a.past = b.past)) := by
  obtain ⟨a1, a2, a3, a4⟩ := a
  obtain ⟨b1, b2, b3, b4⟩ := b
  rw [Bool.eq_iff_iff]
  simp only [decide_eq_true_eq, Bool.and_eq_true, beq_iff_eq, Ver.mk.injEq]
  constructor
  · rintro ⟨h1, h2, h3, h4⟩; exact ⟨⟨⟨h1, h3⟩, h4⟩, h2⟩
  · rintro ⟨⟨⟨h1, h3⟩, h4⟩, h2⟩; exact ⟨h1, h2, h3, h4⟩
end Sp
set_option maxRecDepth 100000 in
set_option maxHeartbeats 4000000 in
theorem samever_calls (a b : Sp.Ver) (A B : Option Addr) (cap cap' : Nat) (w : World) (h : Past w A a) (h' : Past w B b) :
    Calls Tryz.prog 86 #[verV A cap a, verV B cap' b] w fun e w' => e = .returned (.bool (decide (a = b))) ∧ Ext w w' := by
  have C := Lib.hid fun W (e : Ext w W) => vsame_calls a.past b.past A B cap cap' W (h.1.ext e) h.2 (h'.1.ext e) h'.2
  have F := Lib.hid (Sp.ver_eq a b)
  have tl := strOf_toList a.data
  have tl' := strOf_toList b.data
  have hg := dot_guard
  have hq := deq_in a.dot b.dot
  clear h h'
  by_cases h1 : a.dot = b.dot
  · by_cases h2 : a.dead = b.dead
    · by_cases h3 : a.data = b.data
      · have q1 : decide (a.dot = b.dot) = true := decide_eq_true h1
        have q2 : (a.dead == b.dead) = true := by simpa using h2
        have q3 : (a.data == b.data) = true := by simpa using h3
        rw [q1, q2, q3] at F
        clear h1 h2 h3
        go_enter Tryz.func86, Tryz.ntmps86
        go_wp2_with (go_at_call 124; refine (C.out _ ((Ext.alloc _ _).trans (Ext.alloc _ _))).mono ?_; rintro e w1 ⟨rfl, hb1⟩)
        go_ret
        exact ⟨by rw [F.out]; rfl, ((Ext.alloc _ _).trans (Ext.alloc _ _)).trans hb1⟩
      · have q1 : decide (a.dot = b.dot) = true := decide_eq_true h1
        have q2 : (a.dead == b.dead) = true := by simpa using h2
        have q3 : (a.data == b.data) = false := by simpa using h3
        rw [q1, q2, q3] at F
        clear h1 h2 h3
        go_enter Tryz.func86, Tryz.ntmps86
        go_wp2_with fail
        go_ret
        exact ⟨by rw [F.out]; rfl, (Ext.alloc _ _).trans (Ext.alloc _ _)⟩
    · have q1 : decide (a.dot = b.dot) = true := decide_eq_true h1
      have q2 : (a.dead == b.dead) = false := by simpa using h2
      rw [q1, q2] at F
      clear h1 h2
      go_enter Tryz.func86, Tryz.ntmps86
      go_wp2_with fail
      go_ret
      exact ⟨by rw [F.out]; rfl, (Ext.alloc _ _).trans (Ext.alloc _ _)⟩
  · have q1 : decide (a.dot = b.dot) = false := decide_eq_false h1
    rw [q1] at F
    clear h1
    go_enter Tryz.func86, Tryz.ntmps86
    go_wp2_with fail
    go_ret
    exact ⟨by rw [F.out]; rfl, (Ext.alloc _ _).trans (Ext.alloc _ _)⟩
set_option maxRecDepth 100000 in
set_option maxHeartbeats 4000000 in
theorem rsamever_calls (a b : Sp.Ver) (A B : Option Addr) (cap cap' : Nat) (w : World) (h : Past w A a) (h' : Past w B b) :
    Calls Tryz.prog 87 #[verV A cap a, verV B cap' b] w fun e w' => e = .returned (.bool (decide (a = b))) ∧ Ext w w' := by
  have C := Lib.hid fun W (e : Ext w W) => rvsame_calls a.past b.past A B cap cap' W (h.1.ext e) h.2 (h'.1.ext e) h'.2
  have F := Lib.hid (Sp.ver_eq a b)
  have tl := strOf_toList a.data
  have tl' := strOf_toList b.data
  have hg := dot_guard
  have hq := deq_in a.dot b.dot
  clear h h'
  by_cases h1 : a.dot = b.dot
  · by_cases h2 : a.dead = b.dead
    · by_cases h3 : a.data = b.data
      · have q1 : decide (a.dot = b.dot) = true := decide_eq_true h1
        have q2 : (a.dead == b.dead) = true := by simpa using h2
        have q3 : (a.data == b.data) = true := by simpa using h3
        rw [q1, q2, q3] at F
        clear h1 h2 h3
        go_enter Tryz.func87, Tryz.ntmps87
        go_wp2_with (go_at_call 125; refine (C.out _ ((Ext.alloc _ _).trans (Ext.alloc _ _))).mono ?_; rintro e w1 ⟨rfl, hb1⟩)
        go_ret
        exact ⟨by rw [F.out]; rfl, ((Ext.alloc _ _).trans (Ext.alloc _ _)).trans hb1⟩
      · have q1 : decide (a.dot = b.dot) = true := decide_eq_true h1
        have q2 : (a.dead == b.dead) = true := by simpa using h2
        have q3 : (a.data == b.data) = false := by simpa using h3
        rw [q1, q2, q3] at F
        clear h1 h2 h3
        go_enter Tryz.func87, Tryz.ntmps87
        go_wp2_with fail
        go_ret
        exact ⟨by rw [F.out]; rfl, (Ext.alloc _ _).trans (Ext.alloc _ _)⟩
    · have q1 : decide (a.dot = b.dot) = true := decide_eq_true h1
      have q2 : (a.dead == b.dead) = false := by simpa using h2
      rw [q1, q2] at F
      clear h1 h2
      go_enter Tryz.func87, Tryz.ntmps87
      go_wp2_with fail
      go_ret
      exact ⟨by rw [F.out]; rfl, (Ext.alloc _ _).trans (Ext.alloc _ _)⟩
  · have q1 : decide (a.dot = b.dot) = false := decide_eq_false h1
    rw [q1] at F
    clear h1
    go_enter Tryz.func87, Tryz.ntmps87
    go_wp2_with fail
    go_ret
    exact ⟨by rw [F.out]; rfl, (Ext.alloc _ _).trans (Ext.alloc _ _)⟩
set_option maxRecDepth 100000 in
set_option maxHeartbeats 4000000 in
theorem live_calls (l : List Sp.Ver) (A : Option Addr) (cap : Nat) (w : World) (h : Vers w A l) (hl : l.length ≤ 1000000) : Calls Tryz.prog 93 #[.slice A l.length cap] w (ToldVers w (Sp.live l)) := by
  go_enter Tryz.func93, Tryz.ntmps93
  go_wp2
  go_loopw [3, 8] (fun v3 v8 wr => ∃ k : Nat, k ≤ l.length ∧ v8 = .int .i64 k ∧ (∃ m : List (Option Addr × Nat × Sp.Ver), m.map (·.2.2) = Sp.live (l.take k) ∧ wr.ownsRow w.heap.size 75 5 v3 m.length (versC m) ∧ ∀ x ∈ m, Past w x.1 x.2.2) ∧ Ext w wr) (fun _ v8 _ => l.length - (intOf v8).toNat)
  case atStart => exact ⟨0, Nat.zero_le _, rfl, ⟨[], rfl, ⟨rfl, .inl ⟨rfl, rfl⟩⟩, fun _ h => by cases h⟩, Ext.refl _⟩
  case round =>
    obtain ⟨k, hk, rfl, ⟨m, hm, hown, hp⟩, hb⟩ := hrel
    by_cases hlt : k < l.length
    · obtain ⟨g, o, rfl, hc0⟩ := h.at (by omega)
      obtain ⟨A', c', hvc, hpast⟩ := hc0 k hlt
      obtain ⟨c0, c1, c2, c3, c4⟩ := hvc.ext hb
      have HC := Lib.hid hpast
      have HP := Lib.hid hp
      have ml : m.length ≤ k := by
        have := congrArg List.length hm
        rw [List.length_map] at this
        rw [this]
        unfold Sp.live
        exact Nat.le_trans (List.length_filter_le _ _) (List.length_take_le _ _)
      have st : Sp.live (l.take (k + 1)) = Sp.live (l.take k) ++ if l[k].dead then [] else [l[k]] := by
        unfold Sp.live
        rw [List.take_succ_eq_append_getElem hlt, List.filter_append]
        cases hh : l[k].dead <;> simp [hh]
      have HM := Lib.hid hm
      have HO := Lib.hid hown
      clear hm hown hp hvc hpast hc0
      by_cases hd : l[k].dead = true
      · rw [hd] at c3
        rw [if_pos hd, List.append_nil] at st
        have ST := Lib.hid st
        clear st
        go_wp2_with fail
        go_roundw
        case rel => exact ⟨k + 1, by omega, by go_num, ⟨m, by rw [ST.out]; exact HM.out, HO.out.alloc _, HP.out⟩, hb.trans (Ext.alloc _ _)⟩
        case measure => simp [intOf]; omega
      · have hd' : l[k].dead = false := by simpa using hd
        rw [hd'] at c3
        rw [if_neg hd] at st
        have ST := Lib.hid st
        have HD := Lib.hid hd'
        clear st hd hd'
        go_wp2_with (at_builtin; refine app_new appVer rfl _ _ rfl w.heap.size _ m.length _ rfl (HO.out.alloc (.cells #[.int .i64 l[k].dot.1, .int .i64 l[k].dot.2, .slice A' l[k].past.length c', .bool false, .string (strOf l[k].data)] 75)) #[.int .i64 l[k].dot.1, .int .i64 l[k].dot.2, .slice A' l[k].past.length c', .bool false, .string (strOf l[k].data)] 75 1 (by rw [World.size_alloc]; rfl) rfl (by intro u hu; simp at hu; rcases hu with rfl | rfl | rfl | rfl | rfl <;> rfl) (by decide) (by omega) (by rw [World.size_alloc]; have := hb.size; omega) ?_; intro g6 cap6 w6 hown6 hgr6 hb6 hbg6; have O6 := Lib.hid hown6; have B6 := Lib.hid hb6; clear hown6 hgr6 hb6)
        go_roundw
        case rel =>
          refine ⟨k + 1, by omega, by go_num, ⟨m ++ [(A', c', l[k])], ?_, ?_, ?_⟩, B6.out.from (hb.trans (Ext.alloc _ _))⟩
          · rw [List.map_append, HM.out, ST.out]; rfl
          · rw [versC_append, List.length_append]
            have := O6.out
            simpa [versC, HD.out] using this
          · intro x hx
            rcases List.mem_append.1 hx with h1 | h1
            · exact HP.out x h1
            · obtain rfl := List.mem_singleton.1 h1
              exact HC.out
        case measure => simp [intOf]; omega
    · obtain rfl : k = l.length := by omega
      rw [List.take_length] at hm
      have HM := Lib.hid hm
      clear hm
      go_wp2
      go_ret
      refine ⟨_, rfl, ⟨m, HM.out, ?_, fun x hx => (hp x hx).ext hb⟩, hb⟩
      rw [← HM.out, List.length_map]
      exact hown
set_option maxRecDepth 100000 in
set_option maxHeartbeats 4000000 in
theorem rlive_calls (l : List Sp.Ver) (A : Option Addr) (cap : Nat) (w : World) (h : Vers w A l) (hl : l.length ≤ 1000000) : Calls Tryz.prog 61 #[.slice A l.length cap] w (ToldVers w (Sp.live l)) := by
  go_enter Tryz.func61, Tryz.ntmps61
  go_wp2
  go_loopw [3, 4] (fun v3 v8 wr => ∃ k : Nat, k ≤ l.length ∧ v8 = .int .i64 k ∧ (∃ m : List (Option Addr × Nat × Sp.Ver), m.map (·.2.2) = Sp.live (l.take k) ∧ wr.ownsRow w.heap.size 75 5 v3 m.length (versC m) ∧ ∀ x ∈ m, Past w x.1 x.2.2) ∧ Ext w wr) (fun _ v8 _ => l.length - (intOf v8).toNat)
  case atStart => exact ⟨0, Nat.zero_le _, rfl, ⟨[], rfl, ⟨rfl, .inl ⟨rfl, rfl⟩⟩, fun _ h => by cases h⟩, Ext.refl _⟩
  case round =>
    obtain ⟨k, hk, rfl, ⟨m, hm, hown, hp⟩, hb⟩ := hrel
    by_cases hlt : k < l.length
    · obtain ⟨g, o, rfl, hc0⟩ := h.at (by omega)
      obtain ⟨A', c', hvc, hpast⟩ := hc0 k hlt
      obtain ⟨c0, c1, c2, c3, c4⟩ := hvc.ext hb
      have HC := Lib.hid hpast
      have HP := Lib.hid hp
      have ml : m.length ≤ k := by
        have := congrArg List.length hm
        rw [List.length_map] at this
        rw [this]
        unfold Sp.live
        exact Nat.le_trans (List.length_filter_le _ _) (List.length_take_le _ _)
      have st : Sp.live (l.take (k + 1)) = Sp.live (l.take k) ++ if l[k].dead then [] else [l[k]] := by
        unfold Sp.live
        rw [List.take_succ_eq_append_getElem hlt, List.filter_append]
        cases hh : l[k].dead <;> simp [hh]
      have HM := Lib.hid hm
      have HO := Lib.hid hown
      clear hm hown hp hvc hpast hc0
      by_cases hd : l[k].dead = true
      · rw [hd] at c3
        rw [if_pos hd, List.append_nil] at st
        have ST := Lib.hid st
        clear st
        go_wp2_with fail
        go_roundw
        case rel => exact ⟨k + 1, by omega, by go_num, ⟨m, by rw [ST.out]; exact HM.out, HO.out, HP.out⟩, hb⟩
        case measure => simp [intOf]; omega
      · have hd' : l[k].dead = false := by simpa using hd
        rw [hd'] at c3
        rw [if_neg hd] at st
        have ST := Lib.hid st
        have HD := Lib.hid hd'
        clear st hd hd'
        go_wp2_with (at_builtin; refine app_new appVer rfl _ _ rfl w.heap.size _ m.length _ rfl (HO.out) #[.int .i64 l[k].dot.1, .int .i64 l[k].dot.2, .slice A' l[k].past.length c', .bool false, .string (strOf l[k].data)] 75 1 rfl rfl (by intro u hu; simp at hu; rcases hu with rfl | rfl | rfl | rfl | rfl <;> rfl) (by decide) (by omega) (hb.size) ?_; intro g6 cap6 w6 hown6 hgr6 hb6 hbg6; have O6 := Lib.hid hown6; have B6 := Lib.hid hb6; clear hown6 hgr6 hb6)
        go_roundw
        case rel =>
          refine ⟨k + 1, by omega, by go_num, ⟨m ++ [(A', c', l[k])], ?_, ?_, ?_⟩, B6.out.from hb⟩
          · rw [List.map_append, HM.out, ST.out]; rfl
          · rw [versC_append, List.length_append]
            have := O6.out
            simpa [versC, HD.out] using this
          · intro x hx
            rcases List.mem_append.1 hx with h1 | h1
            · exact HP.out x h1
            · obtain rfl := List.mem_singleton.1 h1
              exact HC.out
        case measure => simp [intOf]; omega
    · obtain rfl : k = l.length := by omega
      rw [List.take_length] at hm
      have HM := Lib.hid hm
      clear hm
      go_wp2
      go_ret
      refine ⟨_, rfl, ⟨m, HM.out, ?_, fun x hx => (hp x hx).ext hb⟩, hb⟩
      rw [← HM.out, List.length_map]
      exact hown
end Go.Proofs.YteiblfcehlibpaaGreatDoor
