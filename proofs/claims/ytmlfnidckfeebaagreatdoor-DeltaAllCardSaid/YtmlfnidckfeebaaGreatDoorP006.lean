/- Walks: versions that are the same; those that live. Walks: the reference's leaves; leaves that are the same. Walks: leaves that are the same. Walks: dots and vectors as bytes. Walks: the reference's vectors and leaves as bytes. Walks: words, turned. -/
import Derived.Laws.Rows
import Derived.Test.YtmlfnidckfeebaaGreatDoorP005
namespace Go.Proofs.YtmlfnidckfeebaaGreatDoor
open Go.RowKit Go.Shelf
attribute [local go_sem] yUpon
namespace Sp
theorem ver_eq (a b : Ver) : decide (a = b) = (decide (a.dot = b.dot) && (a.dead == b.dead) && (a.data == b.data) && decide (a.past = b.past)) := by
  obtain ⟨a1, a2, a3, a4⟩ := a
  obtain ⟨b1, b2, b3, b4⟩ := b
  rw [Bool.eq_iff_iff]
  simp only [decide_eq_true_eq, Bool.and_eq_true, beq_iff_eq, Ver.mk.injEq]
  constructor
  · rintro ⟨h1, h2, h3, h4⟩; exact ⟨⟨⟨h1, h3⟩, h4⟩, h2⟩
  · rintro ⟨⟨⟨h1, h3⟩, h4⟩, h2⟩; exact ⟨h1, h2, h3, h4⟩
end Sp
set_option maxRecDepth 100000 in
set_option maxHeartbeats 4000000 in
theorem samever_calls (a b : Sp.Ver) (A B : Option Addr) (cap cap' : Nat) (w : World) (h : Past w A a) (h' : Past w B b) :
    Calls Tryz.prog 145 #[verV A cap a, verV B cap' b] w fun e w' => e = .returned (.bool (decide (a = b))) ∧ Ext w w' := by
  have C := Lib.hid fun W (e : Ext w W) => vsame_calls a.past b.past A B cap cap' W (h.1.ext e) h.2 (h'.1.ext e) h'.2
  have F := Lib.hid (Sp.ver_eq a b)
  have tl := strOf_toList a.data
  have tl' := strOf_toList b.data
  have hg := dot_guard
  have hq := deq_in a.dot b.dot
  clear h h'
  by_cases h1 : a.dot = b.dot
  · by_cases h2 : a.dead = b.dead
    · by_cases h3 : a.data = b.data
      · have q1 : decide (a.dot = b.dot) = true := decide_eq_true h1
        have q2 : (a.dead == b.dead) = true := by simpa using h2
        have q3 : (a.data == b.data) = true := by simpa using h3
        rw [q1, q2, q3] at F
        clear h1 h2 h3
        go_enter Tryz.func145, Tryz.ntmps145
        go_wp2_with (go_at_call 208; refine (C.out _ ((Ext.alloc _ _).trans (Ext.alloc _ _))).mono ?_; rintro e w1 ⟨rfl, hb1⟩)
        go_ret
        exact ⟨by rw [F.out]; rfl, ((Ext.alloc _ _).trans (Ext.alloc _ _)).trans hb1⟩
      · have q1 : decide (a.dot = b.dot) = true := decide_eq_true h1
        have q2 : (a.dead == b.dead) = true := by simpa using h2
        have q3 : (a.data == b.data) = false := by simpa using h3
        rw [q1, q2, q3] at F
        clear h1 h2 h3
        go_enter Tryz.func145, Tryz.ntmps145
        go_wp2_with fail
        go_ret
        exact ⟨by rw [F.out]; rfl, (Ext.alloc _ _).trans (Ext.alloc _ _)⟩
    · have q1 : decide (a.dot = b.dot) = true := decide_eq_true h1
      have q2 : (a.dead == b.dead) = false := by simpa using h2
      rw [q1, q2] at F
      clear h1 h2
      go_enter Tryz.func145, Tryz.ntmps145
      go_wp2_with fail
      go_ret
      exact ⟨by rw [F.out]; rfl, (Ext.alloc _ _).trans (Ext.alloc _ _)⟩
  · have q1 : decide (a.dot = b.dot) = false := decide_eq_false h1
    rw [q1] at F
    clear h1
    go_enter Tryz.func145, Tryz.ntmps145
    go_wp2_with fail
    go_ret
    exact ⟨by rw [F.out]; rfl, (Ext.alloc _ _).trans (Ext.alloc _ _)⟩
set_option maxRecDepth 100000 in
set_option maxHeartbeats 4000000 in
theorem live_calls (l : List Sp.Ver) (A : Option Addr) (cap : Nat) (w : World) (h : Vers w A l) (hl : l.length ≤ 1000000) : Calls Tryz.prog 170 #[.slice A l.length cap] w (ToldVers w (Sp.live l)) := by
  go_enter Tryz.func170, Tryz.ntmps170
  go_wp2
  go_loopw [3, 8] (fun v3 v8 wr => ∃ k : Nat, k ≤ l.length ∧ v8 = .int .i64 k ∧ (∃ m : List (Option Addr × Nat × Sp.Ver), m.map (·.2.2) = Sp.live (l.take k) ∧ wr.ownsRow w.heap.size 71 5 v3 m.length (versC m) ∧ ∀ x ∈ m, Past w x.1 x.2.2) ∧ Ext w wr) (fun _ v8 _ => l.length - (intOf v8).toNat)
  case atStart => exact ⟨0, Nat.zero_le _, rfl, ⟨[], rfl, ⟨rfl, .inl ⟨rfl, rfl⟩⟩, fun _ h => by cases h⟩, Ext.refl _⟩
  case round =>
    obtain ⟨k, hk, rfl, ⟨m, hm, hown, hp⟩, hb⟩ := hrel
    by_cases hlt : k < l.length
    · obtain ⟨g, o, rfl, hc0⟩ := h.at (by omega)
      obtain ⟨A', c', hvc, hpast⟩ := hc0 k hlt
      obtain ⟨c0, c1, c2, c3, c4⟩ := hvc.ext hb
      have HC := Lib.hid hpast
      have HP := Lib.hid hp
      have ml : m.length ≤ k := by
        have := congrArg List.length hm
        rw [List.length_map] at this
        rw [this]
        unfold Sp.live
        exact Nat.le_trans (List.length_filter_le _ _) (List.length_take_le _ _)
      have st : Sp.live (l.take (k + 1)) = Sp.live (l.take k) ++ if l[k].dead then [] else [l[k]] := by
        unfold Sp.live
        rw [List.take_succ_eq_append_getElem hlt, List.filter_append]
        cases hh : l[k].dead <;> simp [hh]
      have HM := Lib.hid hm
      have HO := Lib.hid hown
      clear hm hown hp hvc hpast hc0
      by_cases hd : l[k].dead = true
      · rw [hd] at c3
        rw [if_pos hd, List.append_nil] at st
        have ST := Lib.hid st
        clear st
        go_wp2_with fail
        go_roundw
        case rel => exact ⟨k + 1, by omega, by go_num, ⟨m, by rw [ST.out]; exact HM.out, HO.out.alloc _, HP.out⟩, hb.trans (Ext.alloc _ _)⟩
        case measure => simp [intOf]; omega
      · have hd' : l[k].dead = false := by simpa using hd
        rw [hd'] at c3
        rw [if_neg hd] at st
        have ST := Lib.hid st
        have HD := Lib.hid hd'
        clear st hd hd'
        go_wp2_with (at_builtin; refine app_new appVer rfl _ _ rfl w.heap.size _ m.length _ rfl (HO.out.alloc (.cells #[.int .i64 l[k].dot.1, .int .i64 l[k].dot.2, .slice A' l[k].past.length c', .bool false, .string (strOf l[k].data)] 71)) #[.int .i64 l[k].dot.1, .int .i64 l[k].dot.2, .slice A' l[k].past.length c', .bool false, .string (strOf l[k].data)] 71 1 (by rw [World.size_alloc]; rfl) rfl (by intro u hu; simp at hu; rcases hu with rfl | rfl | rfl | rfl | rfl <;> rfl) (by decide) (by omega) (by rw [World.size_alloc]; have := hb.size; omega) ?_; intro g6 cap6 w6 hown6 hgr6 hb6 hbg6; have O6 := Lib.hid hown6; have B6 := Lib.hid hb6; clear hown6 hgr6 hb6)
        go_roundw
        case rel =>
          refine ⟨k + 1, by omega, by go_num, ⟨m ++ [(A', c', l[k])], ?_, ?_, ?_⟩, B6.out.from (hb.trans (Ext.alloc _ _))⟩
          · rw [List.map_append, HM.out, ST.out]; rfl
          · rw [versC_append, List.length_append]
            have := O6.out
            simpa [versC, HD.out] using this
          · intro x hx
            rcases List.mem_append.1 hx with h1 | h1
            · exact HP.out x h1
            · obtain rfl := List.mem_singleton.1 h1
              exact HC.out
        case measure => simp [intOf]; omega
    · obtain rfl : k = l.length := by omega
      rw [List.take_length] at hm
      have HM := Lib.hid hm
      clear hm
      go_wp2
      go_ret
      refine ⟨_, rfl, ⟨m, HM.out, ?_, fun x hx => (hp x hx).ext hb⟩, hb⟩
      rw [← HM.out, List.length_map]
      exact hown
end Go.Proofs.YtmlfnidckfeebaaGreatDoor
namespace Go.Proofs.YtmlfnidckfeebaaGreatDoor
open Go.RowKit Go.Shelf
attribute [local go_sem] yUpon
set_option maxRecDepth 100000 in
set_option maxHeartbeats 2000000 in
theorem rvercheck_calls (v : Sp.Ver) (A : Option Addr) (cap : Nat) (w : World) (h : Past w A v) :
    Calls Tryz.prog 166 #[verV A cap v] w fun e w' => e = .returned (.int .i64 (Sp.vercheck v)) ∧ Ext w w' := by
  obtain ⟨W0, hW0⟩ : ∃ W0, W0 = w.alloc (.cells (verC A cap v) 71) := ⟨_, rfl⟩
  have HB := Lib.hid (show isBlk W0 w.heap.size 71 (verC A cap v) by rw [hW0]; exact box_at _ _ _)
  have E0 := Lib.hid (show Ext w W0 by rw [hW0]; exact Ext.alloc _ _)
  have HW := Lib.hid hW0.symm
  have CP := Lib.hid fun W (e : Ext w W) => rvcheck_calls v.past A cap W (h.1.ext e) h.2
  have CH := Lib.hid fun W (e : Ext w W) => rvhas_calls v.past A cap v.dot W (h.1.ext e) h.2
  have sz : (strOf v.data).size = v.data.length := strOf_size _
  clear h hW0
  go_enter Tryz.func166, Tryz.ntmps166
  go_wp2_with fail
  rw [HW.out]
  refine (rdot_calls v.dot W0).mono ?_
  rintro e w1 ⟨rfl, hb1⟩
  have B1 := Lib.hid hb1
  have z1 := HB.out.below hb1
  have c0 := (z1.cell 0).trans rfl
  have c1 := (z1.cell 1).trans rfl
  have c2 := (z1.cell 2).trans rfl
  have Z1 := Lib.hid z1
  clear z1 hb1
  by_cases hd : Sp.dot v.dot = 0
  · have F := Lib.hid (show Sp.vercheck v = if Sp.vcheck v.past ≠ 0 then Sp.vcheck v.past else if Sp.vhas v.past v.dot = true then 8 else if 48 < v.data.length then 2 else if v.dead = true ∧ v.data ≠ [] then 7 else 0 from if_neg (by simpa using hd))
    rw [hd]
    clear hd
    go_wp2_with (first
      | (go_at_call 139; refine (CP.out _ (E0.out.trans B1.out)).mono ?_; rintro e w2 ⟨rfl, hb2⟩; have z2 := Z1.out.below hb2; have d0 := (z2.cell 0).trans rfl; have d1 := (z2.cell 1).trans rfl; have d2 := (z2.cell 2).trans rfl; have B2 := Lib.hid (B1.out.trans hb2); have Z2 := Lib.hid z2; clear c0 c1 c2 z2 hb2)
      | (go_at_call 232; refine (CH.out _ (E0.out.trans B2.out)).mono ?_; rintro e w3 ⟨rfl, hb3⟩; have z3 := Z2.out.below hb3; have e3 := (z3.cell 2).trans rfl; have e4 := (z3.cell 3).trans rfl; have e5 := (z3.cell 4).trans rfl; have B3 := Lib.hid (B2.out.trans hb3); clear d0 d1 d2 z3 hb3))
    all_goals
      go_ret
      refine ⟨ret_int ?_, ?_⟩
      · have ll := @List.length_pos_iff _ v.data
        rw [F.out]
        clear F HB E0 HW CP CH B1 Z1
        simp_all
        try omega
      · first
          | exact E0.out.trans B3.out
          | exact E0.out.trans B2.out
          | exact E0.out.trans B1.out
  · have F := Lib.hid (show Sp.vercheck v = Sp.dot v.dot from if_pos hd)
    have b1 : (Sp.dot v.dot == 0) = false := by simpa using hd
    have b2 : (Sp.dot v.dot != 0) = true := by simpa using hd
    clear hd
    go_wp2
    go_ret
    exact ⟨ret_int F.out.symm, E0.out.trans B1.out⟩
set_option maxRecDepth 100000 in
set_option maxHeartbeats 2000000 in
theorem rcovers_calls (a b : Sp.Ver) (A B : Option Addr) (cap cap' : Nat) (w : World) (h : Past w A a) :
    Calls Tryz.prog 167 #[verV A cap a, verV B cap' b] w fun e w' => e = .returned (.bool (Sp.covers a b)) ∧ Ext w w' := by
  have CH := Lib.hid fun W (e : Ext w W) => rvhas_calls a.past A cap b.dot W (h.1.ext e) h.2
  clear h
  go_enter Tryz.func167, Tryz.ntmps167
  go_wp2_with (go_at_call 232; refine (CH.out _ ((Ext.alloc _ _).trans (Ext.alloc _ _))).mono ?_; rintro e w1 ⟨rfl, hb1⟩)
  go_ret
  exact ⟨rfl, ((Ext.alloc _ _).trans (Ext.alloc _ _)).trans hb1⟩
set_option maxRecDepth 100000 in
set_option maxHeartbeats 4000000 in
theorem rcovered_calls (l : List Sp.Ver) (v : Sp.Ver) (A B : Option Addr) (cap cap' : Nat) (w : World) (h : Vers w A l) (hl : l.length ≤ 1000000) :
    Calls Tryz.prog 101 #[.slice A l.length cap, verV B cap' v] w fun e w' => e = .returned (.bool (Sp.covered l v)) ∧ Ext w w' := by
  obtain ⟨W0, hW0⟩ : ∃ W0, W0 = w.alloc (.cells (verC B cap' v) 71) := ⟨_, rfl⟩
  have HB := Lib.hid (show isBlk W0 w.heap.size 71 (verC B cap' v) by rw [hW0]; exact box_at _ _ _)
  have E0 := Lib.hid (show Ext w W0 by rw [hW0]; exact Ext.alloc _ _)
  have HH := Lib.hid (h.ext E0.out)
  have HW := Lib.hid hW0.symm
  clear hW0 h
  go_enter Tryz.func101, Tryz.ntmps101
  go_wp2_with fail
  rw [HW.out]
  go_loopw [5] (fun v5 wr => ∃ k : Nat, k ≤ l.length ∧ v5 = .int .i64 k ∧ Sp.covered l v = (l.drop k).any (fun x => Sp.covers x v) ∧ Ext W0 wr) (fun v5 _ => l.length - (intOf v5).toNat)
  case atStart => exact ⟨0, Nat.zero_le _, rfl, rfl, Ext.refl _⟩
  case round =>
    obtain ⟨k, hk, rfl, hv, hb⟩ := hrel
    by_cases hlt : k < l.length
    · obtain ⟨g, o, rfl, hc⟩ := (HH.out.ext hb).at (by omega)
      obtain ⟨A', c', ⟨c0, c1, c2, c3, c4⟩, hp⟩ := hc k hlt
      rw [List.drop_eq_getElem_cons hlt, List.any_cons] at hv
      have HV := Lib.hid hv
      have C := Lib.hid fun W (e : Ext wr W) => rcovers_calls l[k] v A' B c' cap' W (hp.ext e)
      clear hv hc hp
      go_wp2_with fail
      refine wp_region_det (fun W => Ext wr W) (by kernel_rfl) (by kernel_rfl) (Below.refl _ _).drew ?_
      repeat (first
        | (refine det_step (fun K hK => ?_)
           apply Exists.intro
           refine ⟨Or.inl ⟨rfl, fun W hS => ?_⟩, ?_⟩
           · replace hS : Ext wr W := hS
             have f0 := hS.cell c0; have f1 := hS.cell c1; have f2 := hS.cell c2; have f3 := hS.cell c3; have f4 := hS.cell c4; have z := (HB.out.below hb).below hS; have z0 := (z.cell 0).trans rfl; have z1 := (z.cell 1).trans rfl; have z2 := (z.cell 2).trans rfl; have z3 := (z.cell 3).trans rfl; have z4 := (z.cell 4).trans rfl
             go_simp
             first
             | exact rfl
             | exact ⟨rfl, hS⟩
             | (refine (C.out W hS).mono ?_; rintro e w1 ⟨rfl, hb1⟩; exact ⟨rfl, hS.trans hb1⟩)
           go_simp
           refine hK _ ?_
           clear hK K)
        | (refine det_step (fun K hK => ?_); refine det_no' rfl ?_; go_simp; refine hK _ ?_; clear hK K))
      refine det_nil ?_
      intro W9 hS
      replace hS : Ext _ W9 := hS
      go_wp2
      · go_ret
        exact ⟨by rw [HV.out]; simp_all, E0.out.trans (hb.trans hS)⟩
      · go_roundw
        case rel => exact ⟨k + 1, by omega, by go_num, by rw [HV.out]; simp_all, hb.trans hS⟩
        case measure => simp [intOf]; omega
    · obtain rfl : k = l.length := by omega
      have HV := Lib.hid hv
      clear hv
      go_wp2
      go_ret
      exact ⟨by rw [HV.out]; simp, E0.out.trans hb⟩
set_option maxRecDepth 100000 in
set_option maxHeartbeats 4000000 in
theorem rleaf_calls (l : List Sp.Ver) (A : Option Addr) (cap : Nat) (w : World) (h : Vers w A l) :
    Calls Tryz.prog 100 #[.slice A l.length cap] w fun e w' => e = .returned (.int .i64 (Sp.leaf l)) ∧ Ext w w' := by
  by_cases h64 : 64 < l.length
  · have F := Lib.hid (show Sp.leaf l = 2 from if_pos h64)
    have b1 : decide ((64 : Int) < (l.length : Int)) = true := by rw [decide_eq_true_iff]; omega
    clear h64
    go_enter Tryz.func100, Tryz.ntmps100
    go_wp2
    go_ret
    exact ⟨ret_int F.out.symm, Ext.refl _⟩
  · have F := Lib.hid (show Sp.leaf l = if Sp.lgo none l ≠ 0 then Sp.lgo none l else if (l.any fun v => Sp.covered l v) = true then 7 else 0 from if_neg h64)
    have b1 : decide ((64 : Int) < (l.length : Int)) = false := by rw [decide_eq_false_iff_not]; omega
    have hl : l.length ≤ 64 := by omega
    clear h64
    go_enter Tryz.func100, Tryz.ntmps100
    go_wp2
    go_loopw [3] (fun v3 wr => ∃ k : Nat, k ≤ l.length ∧ v3 = .int .i64 k ∧ Sp.lgo none l = Sp.lgo (Sp.lastP l k) (l.drop k) ∧ Ext w wr) (fun v3 _ => l.length - (intOf v3).toNat)
    case atStart => exact ⟨0, Nat.zero_le _, rfl, rfl, Ext.refl _⟩
    case round =>
      obtain ⟨k, hk, rfl, hv, hb⟩ := hrel
      by_cases hlt : k < l.length
      · obtain ⟨g, o, rfl, hc⟩ := (h.ext hb).at (by omega)
        obtain ⟨A', c', ⟨c0, c1, c2, c3, c4⟩, hp⟩ := hc k hlt
        have HC := Lib.hid hc
        rw [Sp.lgo_step l k hlt] at hv
        have HV := Lib.hid hv
        have VC := Lib.hid (rvercheck_calls l[k] A' c' _ hp)
        clear hv hc hp
        go_wp2_with fail
        refine VC.out.mono ?_
        rintro e w1 ⟨rfl, hb1⟩
        have B1 := Lib.hid hb1
        have g0 := hb1.cell c0
        clear hb1 c0 c1 c2 c3 c4
        by_cases hz : Sp.vercheck l[k] = 0
        · have b2 : (Sp.vercheck l[k] != 0) = false := by simpa using hz
          by_cases h0 : k = 0
          · subst h0
            have b3 : decide ((0 : Int) < 0) = false := by decide
            go_wp2_with fail
            refine wp_region_det (fun W => Ext w1 W) (by kernel_rfl) (by kernel_rfl) (Below.refl _ _).drew ?_
            repeat (first
              | (refine det_step (fun K hK => ?_)
                 apply Exists.intro
                 refine ⟨Or.inl ⟨rfl, fun W hS => ?_⟩, ?_⟩
                 · replace hS : Ext w1 W := hS
                   skip
                   go_simp
                   first
                   | exact rfl
                   | exact ⟨rfl, hS⟩
                   | (fail)
                 go_simp
                 refine hK _ ?_
                 clear hK K)
              | (refine det_step (fun K hK => ?_); refine det_no' rfl ?_; go_simp; refine hK _ ?_; clear hK K))
            refine det_nil ?_
            intro W9 hS
            replace hS : Ext _ W9 := hS
            go_wp2_with fail
            go_roundw
            case rel => exact ⟨1, by omega, rfl, by rw [HV.out, if_neg (by simpa using hz), if_neg (Sp.lastP_zero _ _)], hb.trans (B1.out.trans hS)⟩
            case measure => simp [intOf]; omega
          · have b3 : decide (0 < k) = true := by rw [decide_eq_true_iff]; omega
            have h0' : 0 < k := by omega
            obtain ⟨A2, c2', ⟨d0, d1, d2, d3, d4⟩, hp2⟩ := HC.out (k - 1) (by omega)
            have w1' : IntKind.i64.wrap ((k : Int) - 1) = (k : Int) - 1 := IntWalk.i64_in _ (by omega)
            have i1 : (0 : Int) ≤ (k : Int) - 1 := by omega
            have i2 : (k : Int) - 1 < l.length := by omega
            have i4 : (1 : Int) ≤ k := by omega
            have i5 : 1 ≤ k := by omega
            have i3 : ((k : Int) - 1).toNat = k - 1 := by omega
            have e0 := B1.out.cell d0
            clear d0 d1 d2 d3 d4 hp2
            go_wp2_with fail
            refine wp_region_det (fun W => Ext w1 W) (by kernel_rfl) (by kernel_rfl) (Below.refl _ _).drew ?_
            repeat (first
              | (refine det_step (fun K hK => ?_)
                 apply Exists.intro
                 refine ⟨Or.inl ⟨rfl, fun W hS => ?_⟩, ?_⟩
                 · replace hS : Ext w1 W := hS
                   have f1 := hS.cell e0; have f2 := hS.cell g0
                   go_simp
                   first
                   | exact rfl
                   | exact ⟨rfl, hS⟩
                   | (fail)
                 go_simp
                 refine hK _ ?_
                 clear hK K)
              | (refine det_step (fun K hK => ?_); refine det_no' rfl ?_; go_simp; refine hK _ ?_; clear hK K))
            refine det_nil ?_
            intro W9 hS
            replace hS : Ext _ W9 := hS
            go_wp2_with fail
            · go_ret
              have hle : l[k].dot.1 ≤ l[k - 1].dot.1 := by assumption
              have e8 : Sp.lgo none l = 8 := by rw [HV.out, if_neg (by simpa using hz), if_pos ((Sp.lastP_pos l k _ h0' (by omega)).2 hle)]
              exact ⟨ret_int (by rw [F.out, e8]; rfl), hb.trans (B1.out.trans hS)⟩
            · have hgt : ¬ l[k].dot.1 ≤ l[k - 1].dot.1 := by omega
              go_roundw
              case rel => exact ⟨k + 1, by omega, by go_num, by rw [HV.out, if_neg (by simpa using hz), if_neg (fun e => hgt ((Sp.lastP_pos l k _ h0' (by omega)).1 e))], hb.trans (B1.out.trans hS)⟩
              case measure => simp [intOf]; omega
        · have b2 : (Sp.vercheck l[k] != 0) = true := by simpa using hz
          go_wp2_with fail
          go_ret
          have e8 : Sp.lgo none l = Sp.vercheck l[k] := by rw [HV.out, if_pos hz]
          exact ⟨ret_int (by rw [F.out, e8, if_pos hz]), hb.trans B1.out⟩
      · obtain rfl : k = l.length := by omega
        rw [List.drop_length, Sp.lgo] at hv
        have HV := Lib.hid hv
        have FF := Lib.hid (show Sp.leaf l = if (l.any fun v => Sp.covered l v) = true then 7 else 0 by rw [F.out, HV.out]; rfl)
        have HB := Lib.hid hb
        clear hv
        go_wp2_with fail
        go_loopw [5] (fun v5 wr => ∃ k : Nat, k ≤ l.length ∧ v5 = .int .i64 k ∧ (l.any fun v => Sp.covered l v) = ((l.drop k).any fun v => Sp.covered l v) ∧ Ext w wr) (fun v5 _ => l.length - (intOf v5).toNat)
        case atStart => exact ⟨0, Nat.zero_le _, rfl, rfl, HB.out⟩
        case round =>
          obtain ⟨k, hk, rfl, hv, hb⟩ := hrel
          by_cases hlt : k < l.length
          · have CC := Lib.hid fun B cap' => rcovered_calls l l[k] A B cap cap' _ (h.ext hb) (by omega)
            obtain ⟨g, o, rfl, hc⟩ := (h.ext hb).at (by omega)
            obtain ⟨A', c', ⟨c0, c1, c2, c3, c4⟩, hp⟩ := hc k hlt
            rw [List.drop_eq_getElem_cons hlt, List.any_cons] at hv
            have HV := Lib.hid hv
            clear hv hc hp
            go_wp2_with fail
            refine (CC.out A' c').mono ?_
            rintro e w1 ⟨rfl, hb1⟩
            have B1 := Lib.hid hb1
            clear hb1 c0 c1 c2 c3 c4
            go_wp2
            · go_ret
              exact ⟨ret_int (by rw [FF.out, HV.out]; simp_all), hb.trans B1.out⟩
            · go_roundw
              case rel => exact ⟨k + 1, by omega, by go_num, by rw [HV.out]; simp_all, hb.trans B1.out⟩
              case measure => simp [intOf]; omega
          · obtain rfl : k = l.length := by omega
            rw [List.drop_length] at hv
            have HV := Lib.hid hv
            clear hv
            go_wp2
            go_ret
            exact ⟨ret_int (by rw [FF.out, HV.out]; rfl), hb⟩
end Go.Proofs.YtmlfnidckfeebaaGreatDoor
namespace Go.Proofs.YtmlfnidckfeebaaGreatDoor
open Go.RowKit Go.Shelf
attribute [local go_sem] yUpon
set_option maxRecDepth 100000 in
set_option maxHeartbeats 4000000 in
theorem verequal_calls (l m : List Sp.Ver) (A B : Option Addr) (cap cap' : Nat) (w : World) (h : Vers w A l) (h' : Vers w B m) (hl : l.length ≤ 140737488351232) :
    Calls Tryz.prog 144 #[.slice A l.length cap, .slice B m.length cap', .func (.func 145) #[] #[]] w fun e w' => e = .returned (.bool (decide (l = m))) ∧ Ext w w' := by
  by_cases hlm : l.length = m.length
  · have b0 : ((l.length : Int) == (m.length : Int)) = true := by rw [hlm]; simp
    have b1 : ((l.length : Int) != (m.length : Int)) = false := by rw [hlm]; simp
    have HL := Lib.hid hlm
    clear hlm
    go_enter Tryz.func144, Tryz.ntmps144
    go_wp2
    go_loopw [17] (fun v13 wr => ∃ k : Nat, k ≤ l.length ∧ v13 = .int .i64 k ∧ decide (l = m) = decide (l.drop k = m.drop k) ∧ Ext w wr) (fun v13 _ => l.length - (intOf v13).toNat)
    case atStart => exact ⟨0, Nat.zero_le _, rfl, rfl, Ext.refl _⟩
    case round =>
      obtain ⟨k, hk, rfl, hv, hb⟩ := hrel
      by_cases hlt : k < l.length
      · have hlt' : k < m.length := by have := HL.out; omega
        obtain ⟨g, o, rfl, hc⟩ := (h.ext hb).at (by omega)
        obtain ⟨g', o', rfl, hc'⟩ := (h'.ext hb).at (by omega)
        obtain ⟨A', ca, ⟨c0, c1, c2, c3, c4⟩, hp⟩ := hc k hlt
        obtain ⟨B', cb, ⟨d0, d1, d2, d3, d4⟩, hp'⟩ := hc' k hlt'
        have e0 := Ext.alloc wr (.cells (verC A' ca l[k]) 71)
        have d0' := e0.cell d0
        have d1' := e0.cell d1
        have d2' := e0.cell d2
        have d3' := e0.cell d3
        have d4' := e0.cell d4
        rw [Sp.beq_drop l m k hlt hlt'] at hv
        have HV := Lib.hid hv
        have C := Lib.hid fun W (e : Ext wr W) => samever_calls l[k] m[k] A' B' ca cb W (hp.ext e) (hp'.ext e)
        clear hv hc hc' hp hp' e0 d0 d1 d2 d3 d4
        go_wp2_with (go_at_call 145; refine (C.out _ ((Ext.alloc _ _).trans (Ext.alloc _ _))).mono ?_; rintro e w1 ⟨rfl, hb1⟩; have B1 := Lib.hid (hb.trans (((Ext.alloc _ _).trans (Ext.alloc _ _)).trans hb1)); clear hb1)
        · go_ret
          refine ⟨?_, B1.out⟩
          have := HV.out
          simp_all
        · go_roundw
          case rel =>
            refine ⟨k + 1, by omega, by go_num, ?_, B1.out⟩
            have := HV.out
            simp_all
          case measure => simp [intOf]; omega
      · obtain rfl : k = l.length := by omega
        have HV := Lib.hid hv
        clear hv
        go_wp2
        go_ret
        exact ⟨by rw [HV.out, List.drop_length, HL.out, List.drop_length]; rfl, hb⟩
  · have b0 : ((l.length : Int) == (m.length : Int)) = false := by rw [beq_eq_false_iff_ne]; omega
    have b1 : ((l.length : Int) != (m.length : Int)) = true := by rw [bne_iff_ne]; omega
    have F := Lib.hid (show decide (l = m) = false by rw [decide_eq_false_iff_not]; rintro rfl; exact hlm rfl)
    clear hlm
    go_enter Tryz.func144, Tryz.ntmps144
    go_wp2
    go_ret
    exact ⟨by rw [F.out]; rfl, Ext.refl _⟩
set_option maxRecDepth 100000 in
set_option maxHeartbeats 2000000 in
theorem same_calls (l m : List Sp.Ver) (A B : Option Addr) (cap cap' : Nat) (w : World) (h : Vers w A l) (h' : Vers w B m) (hl : l.length ≤ 140737488351232) :
    Calls Tryz.prog 77 #[.slice A l.length cap, .slice B m.length cap'] w fun e w' => e = .returned (.bool (decide (l = m))) ∧ Ext w w' := by
  go_enter Tryz.func77, Tryz.ntmps77
  go_wp2_with (go_at_call 144; refine (verequal_calls l m A B cap cap' _ h h' hl).mono ?_; rintro e w1 ⟨rfl, hb1⟩)
  go_ret
  exact ⟨rfl, hb1⟩
end Go.Proofs.YtmlfnidckfeebaaGreatDoor
namespace Go.Proofs.YtmlfnidckfeebaaGreatDoor
open Go.RowKit
theorem flat_one (s : ByteArray) (hs : s.size ≤ 1) (n : Nat) (h : n ≤ 100000000000000) : n + (([s] : List ByteArray).flatMap (fun s => s.data.toList)).length ≤ 140737488355328 := by
  have : s.data.toList.length = s.size := by simp
  rw [List.flatMap_cons, List.flatMap_nil, List.append_nil]
  omega
theorem Ext.from' {w0 w w' : World} (e : Ext w0 w) (k : Below w0.heap.size w w') : Ext w0 w' := Below.trans e k
/-- A writer has gone on. -/
structure WTo (B g : Nat) (x : Sp.W) (w w' : World) : Prop where
  wr : IsWr B g x w'
  below : Below B w w'
  kept : Kept w w'
  size : w.heap.size ≤ w'.heap.size
theorem WTo.ext {g : Nat} {x : Sp.W} {w0 w w' : World} (h : WTo w0.heap.size g x w w') (e : Ext w0 w) : Ext w0 w' := h.below.from e
set_option maxRecDepth 100000 in
set_option maxHeartbeats 2000000 in
theorem wflag_calls (B g : Nat) (x : Sp.W) (b : Bool) (w : World) (h : IsWr B g x w) (hlen : x.1.length ≤ 100000000000000) (hBw : B ≤ w.heap.size) :
    Calls Tryz.prog 281 #[.pointer (some ⟨g, 0, none⟩), .bool b] w fun e w' => e = .returned (.tuple #[]) ∧ WTo B g (Sp.wflag b x) w w' := by
  have PU := Lib.hid fun (s : ByteArray) (hs : s.size ≤ 1) => wput_calls B g w.heap.size x true [s] (w.alloc (.cells #[.string s] 9)) (h.below (Ext.alloc _ _)) (box_at _ _ _) (flat_one s hs _ (by omega)) (by simp; omega) (by simp)
  have HB := Lib.hid hBw
  clear h hBw
  cases b with
  | true =>
    go_enter Tryz.func281, Tryz.ntmps281
    go_wp2_with (go_at_call 187; refine (PU.out _ (by decide)).mono ?_; rintro e w2 ⟨rfl, hw2, hb2, hk2, hs2⟩)
    go_end0
    have e1 := (Below.refl _ w).alloc HB.out (.cells #[.string ⟨#[1]⟩] 9)
    exact ⟨rfl, by simpa [Sp.wflag] using hw2, e1.trans hb2, (Kept.below (Ext.alloc _ _)).trans hk2, by rw [World.size_alloc] at hs2; omega⟩
  | false =>
    go_enter Tryz.func281, Tryz.ntmps281
    go_wp2_with (go_at_call 187; refine (PU.out _ (by decide)).mono ?_; rintro e w2 ⟨rfl, hw2, hb2, hk2, hs2⟩)
    go_end0
    have e1 := (Below.refl _ w).alloc HB.out (.cells #[.string ⟨#[0]⟩] 9)
    exact ⟨rfl, by simpa [Sp.wflag] using hw2, e1.trans hb2, (Kept.below (Ext.alloc _ _)).trans hk2, by rw [World.size_alloc] at hs2; omega⟩
set_option maxRecDepth 100000 in
set_option maxHeartbeats 2000000 in
theorem putdot_calls (B g : Nat) (x : Sp.W) (d : Sp.Dot) (w : World) (h : IsWr B g x w) (hlen : x.1.length ≤ 10000000000000) (hBw : B ≤ w.heap.size) :
    Calls Tryz.prog 190 #[.pointer (some ⟨g, 0, none⟩), dotV d] w fun e w' => e = .returned (.tuple #[]) ∧ WTo B g (Sp.wdot d x) w w' := by
  have hl := Sp.wnum_len d.1 x
  have N1 := Lib.hid (wnum_calls B g x d.1 (w.alloc (.cells #[.int .i64 d.1, .int .i64 d.2] 68)) (h.below (Ext.alloc _ _)) (by omega) (by simp; omega))
  have N2 := Lib.hid fun W (hw : IsWr B g (Sp.wnum d.1 x) W) (hb : B ≤ W.heap.size) => wnum_calls B g (Sp.wnum d.1 x) d.2 W hw (by omega) hb
  have HB := Lib.hid hBw
  have BX := Lib.hid (box_at w #[.int .i64 d.1, .int .i64 d.2] 68)
  clear h hBw hl
  go_enter Tryz.func190, Tryz.ntmps190
  go_wp2_with fail
  refine N1.out.mono ?_
  rintro e w1 ⟨rfl, hw1, hb1, hk1, hs1⟩
  have z1 := hk1 _ _ _ BX.out (by decide) (by decide)
  have c1 := (z1.cell 1).trans rfl
  rw [World.size_alloc] at hs1
  have e1 := ((Below.refl B w).alloc HB.out (.cells #[.int .i64 d.1, .int .i64 d.2] 68)).trans hb1
  have k1 := (Kept.below (Ext.alloc w (.cells #[.int .i64 d.1, .int .i64 d.2] 68))).trans hk1
  have C2 := Lib.hid (N2.out w1 hw1 (by have := HB.out; omega))
  have E1 := Lib.hid e1
  have K1 := Lib.hid k1
  clear hw1 hb1 hk1 z1 e1 k1
  go_wp2_with fail
  refine C2.out.mono ?_
  rintro e w2 ⟨rfl, hw2, hb2, hk2, hs2⟩
  go_wp2_with fail
  go_end0
  exact ⟨rfl, hw2, E1.out.trans hb2, K1.out.trans hk2, by omega⟩
end Go.Proofs.YtmlfnidckfeebaaGreatDoor
namespace Go.Proofs.YtmlfnidckfeebaaGreatDoor
open Go.RowKit Go.Shelf
namespace Sp
end Sp
/-- The reference's writer has gone on. -/
structure RTo (g : Nat) (x : Sp.W) (w w' : World) : Prop where
  wr : isRW w' g x
  only : Only g w w'
theorem RTo.ext {g : Nat} {x : Sp.W} {w0 w w' : World} (h : RTo g x w w') (hg : w0.heap.size ≤ g) (e : Ext w0 w) : Ext w0 w' := e.from' (h.only.below hg e.size)
end Go.Proofs.YtmlfnidckfeebaaGreatDoor
namespace Go.Proofs.YtmlfnidckfeebaaGreatDoor
open Go.RowKit
theorem turned_pure (x : UInt32) (n : Nat) : ((x <<< UInt32.ofNat (32 - n)) ||| (x >>> UInt32.ofNat n)) = Sp.rotr x n := by
  unfold Sp.rotr; rw [UInt32.or_comm]
set_option maxRecDepth 100000 in
set_option maxHeartbeats 2000000 in
theorem rotl_calls (x : UInt32) (n : Nat) (w : World) (hn : n ∈ [2, 6, 7, 11, 13, 17, 18, 19, 22, 25]) : Calls Tryz.prog 326 #[wordV x, .int .i64 (-(n : Int))] w fun e w' => e = .returned (wordV (Sp.rotr x n)) ∧ w = w' := by
  have hx := w_lt x
  simp only [List.mem_cons, List.not_mem_nil, or_false] at hn
  rcases hn with rfl | rfl | rfl | rfl | rfl | rfl | rfl | rfl | rfl | rfl
  · have m0 : bits .and .u64 (IntKind.u64.wrap (-2)) 31 = 30 := by decide
    have s1 : IntKind.u32.wrap (wd x * 1073741824) = wd (x <<< UInt32.ofNat (32 - 2)) := w_shl x 30 (by decide)
    have s2 : wd x / 4 = wd (x >>> UInt32.ofNat 2) := w_shr x 2 (by decide)
    have s3 : bits .or .u32 (wd (x <<< UInt32.ofNat (32 - 2))) (wd (x >>> UInt32.ofNat 2)) = wd (Sp.rotr x 2) := by rw [w_or, turned_pure]
    obtain ⟨a, ha⟩ : ∃ a, a = x <<< UInt32.ofNat (32 - 2) := ⟨_, rfl⟩
    obtain ⟨b, hb⟩ : ∃ b, b = x >>> UInt32.ofNat 2 := ⟨_, rfl⟩
    obtain ⟨c, hc⟩ : ∃ c, c = Sp.rotr x 2 := ⟨_, rfl⟩
    rw [← ha] at s1 s3
    rw [← hb] at s2 s3
    rw [← hc] at s3 ⊢
    clear ha hb hc
    go_enter Tryz.func326, Tryz.ntmps326
    go_wp2
    go_ret
    exact ⟨rfl, rfl⟩
  · have m0 : bits .and .u64 (IntKind.u64.wrap (-6)) 31 = 26 := by decide
    have s1 : IntKind.u32.wrap (wd x * 67108864) = wd (x <<< UInt32.ofNat (32 - 6)) := w_shl x 26 (by decide)
    have s2 : wd x / 64 = wd (x >>> UInt32.ofNat 6) := w_shr x 6 (by decide)
    have s3 : bits .or .u32 (wd (x <<< UInt32.ofNat (32 - 6))) (wd (x >>> UInt32.ofNat 6)) = wd (Sp.rotr x 6) := by rw [w_or, turned_pure]
    obtain ⟨a, ha⟩ : ∃ a, a = x <<< UInt32.ofNat (32 - 6) := ⟨_, rfl⟩
    obtain ⟨b, hb⟩ : ∃ b, b = x >>> UInt32.ofNat 6 := ⟨_, rfl⟩
    obtain ⟨c, hc⟩ : ∃ c, c = Sp.rotr x 6 := ⟨_, rfl⟩
    rw [← ha] at s1 s3
    rw [← hb] at s2 s3
    rw [← hc] at s3 ⊢
    clear ha hb hc
    go_enter Tryz.func326, Tryz.ntmps326
    go_wp2
    go_ret
    exact ⟨rfl, rfl⟩
  · have m0 : bits .and .u64 (IntKind.u64.wrap (-7)) 31 = 25 := by decide
    have s1 : IntKind.u32.wrap (wd x * 33554432) = wd (x <<< UInt32.ofNat (32 - 7)) := w_shl x 25 (by decide)
    have s2 : wd x / 128 = wd (x >>> UInt32.ofNat 7) := w_shr x 7 (by decide)
    have s3 : bits .or .u32 (wd (x <<< UInt32.ofNat (32 - 7))) (wd (x >>> UInt32.ofNat 7)) = wd (Sp.rotr x 7) := by rw [w_or, turned_pure]
    obtain ⟨a, ha⟩ : ∃ a, a = x <<< UInt32.ofNat (32 - 7) := ⟨_, rfl⟩
    obtain ⟨b, hb⟩ : ∃ b, b = x >>> UInt32.ofNat 7 := ⟨_, rfl⟩
    obtain ⟨c, hc⟩ : ∃ c, c = Sp.rotr x 7 := ⟨_, rfl⟩
    rw [← ha] at s1 s3
    rw [← hb] at s2 s3
    rw [← hc] at s3 ⊢
    clear ha hb hc
    go_enter Tryz.func326, Tryz.ntmps326
    go_wp2
    go_ret
    exact ⟨rfl, rfl⟩
  · have m0 : bits .and .u64 (IntKind.u64.wrap (-11)) 31 = 21 := by decide
    have s1 : IntKind.u32.wrap (wd x * 2097152) = wd (x <<< UInt32.ofNat (32 - 11)) := w_shl x 21 (by decide)
    have s2 : wd x / 2048 = wd (x >>> UInt32.ofNat 11) := w_shr x 11 (by decide)
    have s3 : bits .or .u32 (wd (x <<< UInt32.ofNat (32 - 11))) (wd (x >>> UInt32.ofNat 11)) = wd (Sp.rotr x 11) := by rw [w_or, turned_pure]
    obtain ⟨a, ha⟩ : ∃ a, a = x <<< UInt32.ofNat (32 - 11) := ⟨_, rfl⟩
    obtain ⟨b, hb⟩ : ∃ b, b = x >>> UInt32.ofNat 11 := ⟨_, rfl⟩
    obtain ⟨c, hc⟩ : ∃ c, c = Sp.rotr x 11 := ⟨_, rfl⟩
    rw [← ha] at s1 s3
    rw [← hb] at s2 s3
    rw [← hc] at s3 ⊢
    clear ha hb hc
    go_enter Tryz.func326, Tryz.ntmps326
    go_wp2
    go_ret
    exact ⟨rfl, rfl⟩
  · have m0 : bits .and .u64 (IntKind.u64.wrap (-13)) 31 = 19 := by decide
    have s1 : IntKind.u32.wrap (wd x * 524288) = wd (x <<< UInt32.ofNat (32 - 13)) := w_shl x 19 (by decide)
    have s2 : wd x / 8192 = wd (x >>> UInt32.ofNat 13) := w_shr x 13 (by decide)
    have s3 : bits .or .u32 (wd (x <<< UInt32.ofNat (32 - 13))) (wd (x >>> UInt32.ofNat 13)) = wd (Sp.rotr x 13) := by rw [w_or, turned_pure]
    obtain ⟨a, ha⟩ : ∃ a, a = x <<< UInt32.ofNat (32 - 13) := ⟨_, rfl⟩
    obtain ⟨b, hb⟩ : ∃ b, b = x >>> UInt32.ofNat 13 := ⟨_, rfl⟩
    obtain ⟨c, hc⟩ : ∃ c, c = Sp.rotr x 13 := ⟨_, rfl⟩
    rw [← ha] at s1 s3
    rw [← hb] at s2 s3
    rw [← hc] at s3 ⊢
    clear ha hb hc
    go_enter Tryz.func326, Tryz.ntmps326
    go_wp2
    go_ret
    exact ⟨rfl, rfl⟩
  · have m0 : bits .and .u64 (IntKind.u64.wrap (-17)) 31 = 15 := by decide
    have s1 : IntKind.u32.wrap (wd x * 32768) = wd (x <<< UInt32.ofNat (32 - 17)) := w_shl x 15 (by decide)
    have s2 : wd x / 131072 = wd (x >>> UInt32.ofNat 17) := w_shr x 17 (by decide)
    have s3 : bits .or .u32 (wd (x <<< UInt32.ofNat (32 - 17))) (wd (x >>> UInt32.ofNat 17)) = wd (Sp.rotr x 17) := by rw [w_or, turned_pure]
    obtain ⟨a, ha⟩ : ∃ a, a = x <<< UInt32.ofNat (32 - 17) := ⟨_, rfl⟩
    obtain ⟨b, hb⟩ : ∃ b, b = x >>> UInt32.ofNat 17 := ⟨_, rfl⟩
    obtain ⟨c, hc⟩ : ∃ c, c = Sp.rotr x 17 := ⟨_, rfl⟩
    rw [← ha] at s1 s3
    rw [← hb] at s2 s3
    rw [← hc] at s3 ⊢
    clear ha hb hc
    go_enter Tryz.func326, Tryz.ntmps326
    go_wp2
    go_ret
    exact ⟨rfl, rfl⟩
  · have m0 : bits .and .u64 (IntKind.u64.wrap (-18)) 31 = 14 := by decide
    have s1 : IntKind.u32.wrap (wd x * 16384) = wd (x <<< UInt32.ofNat (32 - 18)) := w_shl x 14 (by decide)
    have s2 : wd x / 262144 = wd (x >>> UInt32.ofNat 18) := w_shr x 18 (by decide)
    have s3 : bits .or .u32 (wd (x <<< UInt32.ofNat (32 - 18))) (wd (x >>> UInt32.ofNat 18)) = wd (Sp.rotr x 18) := by rw [w_or, turned_pure]
    obtain ⟨a, ha⟩ : ∃ a, a = x <<< UInt32.ofNat (32 - 18) := ⟨_, rfl⟩
    obtain ⟨b, hb⟩ : ∃ b, b = x >>> UInt32.ofNat 18 := ⟨_, rfl⟩
    obtain ⟨c, hc⟩ : ∃ c, c = Sp.rotr x 18 := ⟨_, rfl⟩
    rw [← ha] at s1 s3
    rw [← hb] at s2 s3
    rw [← hc] at s3 ⊢
    clear ha hb hc
    go_enter Tryz.func326, Tryz.ntmps326
    go_wp2
    go_ret
    exact ⟨rfl, rfl⟩
  · have m0 : bits .and .u64 (IntKind.u64.wrap (-19)) 31 = 13 := by decide
    have s1 : IntKind.u32.wrap (wd x * 8192) = wd (x <<< UInt32.ofNat (32 - 19)) := w_shl x 13 (by decide)
    have s2 : wd x / 524288 = wd (x >>> UInt32.ofNat 19) := w_shr x 19 (by decide)
    have s3 : bits .or .u32 (wd (x <<< UInt32.ofNat (32 - 19))) (wd (x >>> UInt32.ofNat 19)) = wd (Sp.rotr x 19) := by rw [w_or, turned_pure]
    obtain ⟨a, ha⟩ : ∃ a, a = x <<< UInt32.ofNat (32 - 19) := ⟨_, rfl⟩
    obtain ⟨b, hb⟩ : ∃ b, b = x >>> UInt32.ofNat 19 := ⟨_, rfl⟩
    obtain ⟨c, hc⟩ : ∃ c, c = Sp.rotr x 19 := ⟨_, rfl⟩
    rw [← ha] at s1 s3
    rw [← hb] at s2 s3
    rw [← hc] at s3 ⊢
    clear ha hb hc
    go_enter Tryz.func326, Tryz.ntmps326
    go_wp2
    go_ret
    exact ⟨rfl, rfl⟩
  · have m0 : bits .and .u64 (IntKind.u64.wrap (-22)) 31 = 10 := by decide
    have s1 : IntKind.u32.wrap (wd x * 1024) = wd (x <<< UInt32.ofNat (32 - 22)) := w_shl x 10 (by decide)
    have s2 : wd x / 4194304 = wd (x >>> UInt32.ofNat 22) := w_shr x 22 (by decide)
    have s3 : bits .or .u32 (wd (x <<< UInt32.ofNat (32 - 22))) (wd (x >>> UInt32.ofNat 22)) = wd (Sp.rotr x 22) := by rw [w_or, turned_pure]
    obtain ⟨a, ha⟩ : ∃ a, a = x <<< UInt32.ofNat (32 - 22) := ⟨_, rfl⟩
    obtain ⟨b, hb⟩ : ∃ b, b = x >>> UInt32.ofNat 22 := ⟨_, rfl⟩
    obtain ⟨c, hc⟩ : ∃ c, c = Sp.rotr x 22 := ⟨_, rfl⟩
    rw [← ha] at s1 s3
    rw [← hb] at s2 s3
    rw [← hc] at s3 ⊢
    clear ha hb hc
    go_enter Tryz.func326, Tryz.ntmps326
    go_wp2
    go_ret
    exact ⟨rfl, rfl⟩
  · have m0 : bits .and .u64 (IntKind.u64.wrap (-25)) 31 = 7 := by decide
    have s1 : IntKind.u32.wrap (wd x * 128) = wd (x <<< UInt32.ofNat (32 - 25)) := w_shl x 7 (by decide)
    have s2 : wd x / 33554432 = wd (x >>> UInt32.ofNat 25) := w_shr x 25 (by decide)
    have s3 : bits .or .u32 (wd (x <<< UInt32.ofNat (32 - 25))) (wd (x >>> UInt32.ofNat 25)) = wd (Sp.rotr x 25) := by rw [w_or, turned_pure]
    obtain ⟨a, ha⟩ : ∃ a, a = x <<< UInt32.ofNat (32 - 25) := ⟨_, rfl⟩
    obtain ⟨b, hb⟩ : ∃ b, b = x >>> UInt32.ofNat 25 := ⟨_, rfl⟩
    obtain ⟨c, hc⟩ : ∃ c, c = Sp.rotr x 25 := ⟨_, rfl⟩
    rw [← ha] at s1 s3
    rw [← hb] at s2 s3
    rw [← hc] at s3 ⊢
    clear ha hb hc
    go_enter Tryz.func326, Tryz.ntmps326
    go_wp2
    go_ret
    exact ⟨rfl, rfl⟩
set_option maxRecDepth 100000 in
set_option maxHeartbeats 2000000 in
theorem turned_calls (x : UInt32) (n : Nat) (w : World) (hn : n ∈ [2, 6, 7, 11, 13, 17, 18, 19, 22, 25]) : Calls Tryz.prog 323 #[wordV x, .int .i64 (n : Int)] w fun e w' => e = .returned (wordV (Sp.rotr x n)) ∧ w = w' := by
  have C := Lib.hid (rotl_calls x n w hn)
  have hn' : 0 ≤ (n : Int) ∧ (n : Int) ≤ 25 := by
    simp only [List.mem_cons, List.not_mem_nil, or_false] at hn
    omega
  have n1 : IntKind.i64.wrap (-(n : Int)) = -(n : Int) := IntWalk.i64_in _ (by omega)
  clear hn
  go_enter Tryz.func323, Tryz.ntmps323
  go_wp2_with (go_at_call 326; refine C.out.mono ?_; rintro e w1 ⟨rfl, rfl⟩)
  go_ret
  exact ⟨rfl, rfl⟩
end Go.Proofs.YtmlfnidckfeebaaGreatDoor
