/- Digests: plain. Nodes: plain. Walks: the reference's leaves; leaves that are the same. Walks: the reference's vectors and leaves as bytes. -/
import Derived.Test.YtmlfnidckfeebaaGreatDoorQQ006
import Derived.Test.YtmlfnidckfeebaaGreatDoorQQ025
namespace Go.Proofs.YtmlfnidckfeebaaGreatDoor
open Go.RowKit
namespace Sp
theorem padding_len (n m : Nat) : (padding n m).length = 9 + (119 - n % 64) % 64 := by
  unfold padding; rw [List.length_append, List.length_cons, List.length_replicate, be8_len]; omega
theorem pad_len (l : Bs) : (pad l).length % 64 = 0 := by
  unfold pad; rw [List.length_append, padding_len]; omega
end Sp
theorem not_nat (x : UInt32) : (~~~x).toNat = 4294967295 - x.toNat := by
  show (~~~x.toBitVec).toNat = _
  rw [BitVec.toNat_not]; rfl
theorem w_not (x : UInt32) : IntKind.u32.wrap ((4294967295 : Int) - wd x) = wd (~~~x) := by
  have h := x.toNat_lt
  unfold wd
  rw [w32, not_nat]; omega
end Go.Proofs.YtmlfnidckfeebaaGreatDoor
namespace Go.Proofs.YtmlfnidckfeebaaGreatDoor
open Go.RowKit
namespace Sp
theorem wput_stop (b : Bool) (s : Bs) (x : W) (h : x.2 ≠ 0) : wput b s x = x := if_pos h
theorem wvers_stop : ∀ (l : List Ver) (x : W), x.2 ≠ 0 → wvers l x = x
  | [], _, _ => rfl
  | v :: r, x, h => by
    have hd : ∀ (d : List Dot), wdots d x = x := by
      intro d; induction d with
      | nil => rfl
      | cons a t ih => show wdots t (wdot a x) = x; unfold wdot wnum; rw [wput_stop _ _ _ h, wput_stop _ _ _ h, ih]
    have hw : wvec v.past x = x := by
      unfold wvec wnum
      split
      · exact if_neg h
      · rw [wput_stop _ _ _ h, hd]
    have hv : wver v x = x := by
      unfold wver wtext wflag wdot wnum
      rw [wput_stop _ _ _ h, wput_stop _ _ _ h, hw, wput_stop _ _ _ h, wput_stop _ _ _ h]
    show wvers r (wver v x) = x
    rw [hv, wvers_stop r x h]
theorem wleaf_stop (l : List Ver) (x : W) (h : x.2 ≠ 0) : wleaf l x = x := by
  unfold wleaf
  split
  · exact if_neg h
  · unfold wnum; rw [wput_stop _ _ _ h, wvers_stop l x h]
theorem wkids_stop : ∀ (l : List Kid) (x : W), x.2 ≠ 0 → wkids l x = x
  | [], _, _ => rfl
  | k :: r, x, h => by
    show wkids r (wkid k x) = x
    unfold wkid wdigest wtext
    rw [wput_stop _ _ _ h, wput_stop _ _ _ h, wkids_stop r x h]
def rnode (n : Node) : W := wkids n.2 (wnum n.2.length (wleaf n.1 (wfail (ncheck n) ([], 0))))
theorem rnode_ok (n : Node) : wdone (rnode n) = nbytes n := by
  unfold rnode nbytes
  by_cases h : ncheck n = 0
  · rw [if_neg (by simpa using h), h]; rfl
  · have e : wfail (ncheck n) ([], 0) = ([], ncheck n) := rfl
    rw [if_pos h, e, wleaf_stop _ _ h]
    unfold wnum
    rw [wput_stop _ _ _ h, wkids_stop _ _ h]
    exact if_neg h
end Sp
end Go.Proofs.YtmlfnidckfeebaaGreatDoor
namespace Go.Proofs.YtmlfnidckfeebaaGreatDoor
open Go.RowKit Go.Shelf
attribute [local go_sem] yUpon
set_option maxRecDepth 100000 in
set_option maxHeartbeats 2000000 in
theorem rvercheck_calls (v : Sp.Ver) (A : Option Addr) (cap : Nat) (w : World) (h : Past w A v) :
    Calls Tryz.prog 166 #[verV A cap v] w fun e w' => e = .returned (.int .i64 (Sp.vercheck v)) ∧ Ext w w' := by
  obtain ⟨W0, hW0⟩ : ∃ W0, W0 = w.alloc (.cells (verC A cap v) 71) := ⟨_, rfl⟩
  have HB := Lib.hid (show isBlk W0 w.heap.size 71 (verC A cap v) by rw [hW0]; exact box_at _ _ _)
  have E0 := Lib.hid (show Ext w W0 by rw [hW0]; exact Ext.alloc _ _)
  have HW := Lib.hid hW0.symm
  have CP := Lib.hid fun W (e : Ext w W) => rvcheck_calls v.past A cap W (h.1.ext e) h.2
  have CH := Lib.hid fun W (e : Ext w W) => rvhas_calls v.past A cap v.dot W (h.1.ext e) h.2
  have sz : (strOf v.data).size = v.data.length := strOf_size _
  clear h hW0
  go_enter Tryz.func166, Tryz.ntmps166
  go_wp2_with fail
  rw [HW.out]
  refine (rdot_calls v.dot W0).mono ?_
  rintro e w1 ⟨rfl, hb1⟩
  have B1 := Lib.hid hb1
  have z1 := HB.out.below hb1
  have c0 := (z1.cell 0).trans rfl
  have c1 := (z1.cell 1).trans rfl
  have c2 := (z1.cell 2).trans rfl
  have Z1 := Lib.hid z1
  clear z1 hb1
  by_cases hd : Sp.dot v.dot = 0
  · have F := Lib.hid (show Sp.vercheck v = if Sp.vcheck v.past ≠ 0 then Sp.vcheck v.past else if Sp.vhas v.past v.dot = true then 8 else if 48 < v.data.length then 2 else if v.dead = true ∧ v.data ≠ [] then 7 else 0 from if_neg (by simpa using hd))
    rw [hd]
    clear hd
    go_wp2_with (first
      | (go_at_call 139; refine (CP.out _ (E0.out.trans B1.out)).mono ?_; rintro e w2 ⟨rfl, hb2⟩; have z2 := Z1.out.below hb2; have d0 := (z2.cell 0).trans rfl; have d1 := (z2.cell 1).trans rfl; have d2 := (z2.cell 2).trans rfl; have B2 := Lib.hid (B1.out.trans hb2); have Z2 := Lib.hid z2; clear c0 c1 c2 z2 hb2)
      | (go_at_call 232; refine (CH.out _ (E0.out.trans B2.out)).mono ?_; rintro e w3 ⟨rfl, hb3⟩; have z3 := Z2.out.below hb3; have e3 := (z3.cell 2).trans rfl; have e4 := (z3.cell 3).trans rfl; have e5 := (z3.cell 4).trans rfl; have B3 := Lib.hid (B2.out.trans hb3); clear d0 d1 d2 z3 hb3))
    all_goals
      go_ret
      refine ⟨ret_int ?_, ?_⟩
      · have ll := @List.length_pos_iff _ v.data
        rw [F.out]
        clear F HB E0 HW CP CH B1 Z1
        simp_all
        try omega
      · first
          | exact E0.out.trans B3.out
          | exact E0.out.trans B2.out
          | exact E0.out.trans B1.out
  · have F := Lib.hid (show Sp.vercheck v = Sp.dot v.dot from if_pos hd)
    have b1 : (Sp.dot v.dot == 0) = false := by simpa using hd
    have b2 : (Sp.dot v.dot != 0) = true := by simpa using hd
    clear hd
    go_wp2
    go_ret
    exact ⟨ret_int F.out.symm, E0.out.trans B1.out⟩
set_option maxRecDepth 100000 in
set_option maxHeartbeats 2000000 in
theorem rcovers_calls (a b : Sp.Ver) (A B : Option Addr) (cap cap' : Nat) (w : World) (h : Past w A a) :
    Calls Tryz.prog 167 #[verV A cap a, verV B cap' b] w fun e w' => e = .returned (.bool (Sp.covers a b)) ∧ Ext w w' := by
  have CH := Lib.hid fun W (e : Ext w W) => rvhas_calls a.past A cap b.dot W (h.1.ext e) h.2
  clear h
  go_enter Tryz.func167, Tryz.ntmps167
  go_wp2_with (go_at_call 232; refine (CH.out _ ((Ext.alloc _ _).trans (Ext.alloc _ _))).mono ?_; rintro e w1 ⟨rfl, hb1⟩)
  go_ret
  exact ⟨rfl, ((Ext.alloc _ _).trans (Ext.alloc _ _)).trans hb1⟩
set_option maxRecDepth 100000 in
set_option maxHeartbeats 4000000 in
theorem rcovered_calls (l : List Sp.Ver) (v : Sp.Ver) (A B : Option Addr) (cap cap' : Nat) (w : World) (h : Vers w A l) (hl : l.length ≤ 1000000) :
    Calls Tryz.prog 101 #[.slice A l.length cap, verV B cap' v] w fun e w' => e = .returned (.bool (Sp.covered l v)) ∧ Ext w w' := by
  obtain ⟨W0, hW0⟩ : ∃ W0, W0 = w.alloc (.cells (verC B cap' v) 71) := ⟨_, rfl⟩
  have HB := Lib.hid (show isBlk W0 w.heap.size 71 (verC B cap' v) by rw [hW0]; exact box_at _ _ _)
  have E0 := Lib.hid (show Ext w W0 by rw [hW0]; exact Ext.alloc _ _)
  have HH := Lib.hid (h.ext E0.out)
  have HW := Lib.hid hW0.symm
  clear hW0 h
  go_enter Tryz.func101, Tryz.ntmps101
  go_wp2_with fail
  rw [HW.out]
  go_loopw [5] (fun v5 wr => ∃ k : Nat, k ≤ l.length ∧ v5 = .int .i64 k ∧ Sp.covered l v = (l.drop k).any (fun x => Sp.covers x v) ∧ Ext W0 wr) (fun v5 _ => l.length - (intOf v5).toNat)
  case atStart => exact ⟨0, Nat.zero_le _, rfl, rfl, Ext.refl _⟩
  case round =>
    obtain ⟨k, hk, rfl, hv, hb⟩ := hrel
    by_cases hlt : k < l.length
    · obtain ⟨g, o, rfl, hc⟩ := (HH.out.ext hb).at (by omega)
      obtain ⟨A', c', ⟨c0, c1, c2, c3, c4⟩, hp⟩ := hc k hlt
      rw [List.drop_eq_getElem_cons hlt, List.any_cons] at hv
      have HV := Lib.hid hv
      have C := Lib.hid fun W (e : Ext wr W) => rcovers_calls l[k] v A' B c' cap' W (hp.ext e)
      clear hv hc hp
      go_wp2_with fail
      refine wp_region_det (fun W => Ext wr W) (by kernel_rfl) (by kernel_rfl) (Below.refl _ _).drew ?_
      repeat (first
        | (refine det_step (fun K hK => ?_)
           apply Exists.intro
           refine ⟨Or.inl ⟨rfl, fun W hS => ?_⟩, ?_⟩
           · replace hS : Ext wr W := hS
             have f0 := hS.cell c0; have f1 := hS.cell c1; have f2 := hS.cell c2; have f3 := hS.cell c3; have f4 := hS.cell c4; have z := (HB.out.below hb).below hS; have z0 := (z.cell 0).trans rfl; have z1 := (z.cell 1).trans rfl; have z2 := (z.cell 2).trans rfl; have z3 := (z.cell 3).trans rfl; have z4 := (z.cell 4).trans rfl
             go_simp
             first
             | exact rfl
             | exact ⟨rfl, hS⟩
             | (refine (C.out W hS).mono ?_; rintro e w1 ⟨rfl, hb1⟩; exact ⟨rfl, hS.trans hb1⟩)
           go_simp
           refine hK _ ?_
           clear hK K)
        | (refine det_step (fun K hK => ?_); refine det_no' rfl ?_; go_simp; refine hK _ ?_; clear hK K))
      refine det_nil ?_
      intro W9 hS
      replace hS : Ext _ W9 := hS
      go_wp2
      · go_ret
        exact ⟨by rw [HV.out]; simp_all, E0.out.trans (hb.trans hS)⟩
      · go_roundw
        case rel => exact ⟨k + 1, by omega, by go_num, by rw [HV.out]; simp_all, hb.trans hS⟩
        case measure => simp [intOf]; omega
    · obtain rfl : k = l.length := by omega
      have HV := Lib.hid hv
      clear hv
      go_wp2
      go_ret
      exact ⟨by rw [HV.out]; simp, E0.out.trans hb⟩
set_option maxRecDepth 100000 in
set_option maxHeartbeats 4000000 in
theorem rleaf_calls (l : List Sp.Ver) (A : Option Addr) (cap : Nat) (w : World) (h : Vers w A l) :
    Calls Tryz.prog 100 #[.slice A l.length cap] w fun e w' => e = .returned (.int .i64 (Sp.leaf l)) ∧ Ext w w' := by
  by_cases h64 : 64 < l.length
  · have F := Lib.hid (show Sp.leaf l = 2 from if_pos h64)
    have b1 : decide ((64 : Int) < (l.length : Int)) = true := by rw [decide_eq_true_iff]; omega
    clear h64
    go_enter Tryz.func100, Tryz.ntmps100
    go_wp2
    go_ret
    exact ⟨ret_int F.out.symm, Ext.refl _⟩
  · have F := Lib.hid (show Sp.leaf l = if Sp.lgo none l ≠ 0 then Sp.lgo none l else if (l.any fun v => Sp.covered l v) = true then 7 else 0 from if_neg h64)
    have b1 : decide ((64 : Int) < (l.length : Int)) = false := by rw [decide_eq_false_iff_not]; omega
    have hl : l.length ≤ 64 := by omega
    clear h64
    go_enter Tryz.func100, Tryz.ntmps100
    go_wp2
    go_loopw [3] (fun v3 wr => ∃ k : Nat, k ≤ l.length ∧ v3 = .int .i64 k ∧ Sp.lgo none l = Sp.lgo (Sp.lastP l k) (l.drop k) ∧ Ext w wr) (fun v3 _ => l.length - (intOf v3).toNat)
    case atStart => exact ⟨0, Nat.zero_le _, rfl, rfl, Ext.refl _⟩
    case round =>
      obtain ⟨k, hk, rfl, hv, hb⟩ := hrel
      by_cases hlt : k < l.length
      · obtain ⟨g, o, rfl, hc⟩ := (h.ext hb).at (by omega)
        obtain ⟨A', c', ⟨c0, c1, c2, c3, c4⟩, hp⟩ := hc k hlt
        have HC := Lib.hid hc
        rw [Sp.lgo_step l k hlt] at hv
        have HV := Lib.hid hv
        have VC := Lib.hid (rvercheck_calls l[k] A' c' _ hp)
        clear hv hc hp
        go_wp2_with fail
        refine VC.out.mono ?_
        rintro e w1 ⟨rfl, hb1⟩
        have B1 := Lib.hid hb1
        have g0 := hb1.cell c0
        clear hb1 c0 c1 c2 c3 c4
        by_cases hz : Sp.vercheck l[k] = 0
        · have b2 : (Sp.vercheck l[k] != 0) = false := by simpa using hz
          by_cases h0 : k = 0
          · subst h0
            have b3 : decide ((0 : Int) < 0) = false := by decide
            go_wp2_with fail
            refine wp_region_det (fun W => Ext w1 W) (by kernel_rfl) (by kernel_rfl) (Below.refl _ _).drew ?_
            repeat (first
              | (refine det_step (fun K hK => ?_)
                 apply Exists.intro
                 refine ⟨Or.inl ⟨rfl, fun W hS => ?_⟩, ?_⟩
                 · replace hS : Ext w1 W := hS
                   skip
                   go_simp
                   first
                   | exact rfl
                   | exact ⟨rfl, hS⟩
                   | (fail)
                 go_simp
                 refine hK _ ?_
                 clear hK K)
              | (refine det_step (fun K hK => ?_); refine det_no' rfl ?_; go_simp; refine hK _ ?_; clear hK K))
            refine det_nil ?_
            intro W9 hS
            replace hS : Ext _ W9 := hS
            go_wp2_with fail
            go_roundw
            case rel => exact ⟨1, by omega, rfl, by rw [HV.out, if_neg (by simpa using hz), if_neg (Sp.lastP_zero _ _)], hb.trans (B1.out.trans hS)⟩
            case measure => simp [intOf]; omega
          · have b3 : decide (0 < k) = true := by rw [decide_eq_true_iff]; omega
            have h0' : 0 < k := by omega
            obtain ⟨A2, c2', ⟨d0, d1, d2, d3, d4⟩, hp2⟩ := HC.out (k - 1) (by omega)
            have w1' : IntKind.i64.wrap ((k : Int) - 1) = (k : Int) - 1 := IntWalk.i64_in _ (by omega)
            have i1 : (0 : Int) ≤ (k : Int) - 1 := by omega
            have i2 : (k : Int) - 1 < l.length := by omega
            have i4 : (1 : Int) ≤ k := by omega
            have i5 : 1 ≤ k := by omega
            have i3 : ((k : Int) - 1).toNat = k - 1 := by omega
            have e0 := B1.out.cell d0
            clear d0 d1 d2 d3 d4 hp2
            go_wp2_with fail
            refine wp_region_det (fun W => Ext w1 W) (by kernel_rfl) (by kernel_rfl) (Below.refl _ _).drew ?_
            repeat (first
              | (refine det_step (fun K hK => ?_)
                 apply Exists.intro
                 refine ⟨Or.inl ⟨rfl, fun W hS => ?_⟩, ?_⟩
                 · replace hS : Ext w1 W := hS
                   have f1 := hS.cell e0; have f2 := hS.cell g0
                   go_simp
                   first
                   | exact rfl
                   | exact ⟨rfl, hS⟩
                   | (fail)
                 go_simp
                 refine hK _ ?_
                 clear hK K)
              | (refine det_step (fun K hK => ?_); refine det_no' rfl ?_; go_simp; refine hK _ ?_; clear hK K))
            refine det_nil ?_
            intro W9 hS
            replace hS : Ext _ W9 := hS
            go_wp2_with fail
            · go_ret
              have hle : l[k].dot.1 ≤ l[k - 1].dot.1 := by assumption
              have e8 : Sp.lgo none l = 8 := by rw [HV.out, if_neg (by simpa using hz), if_pos ((Sp.lastP_pos l k _ h0' (by omega)).2 hle)]
              exact ⟨ret_int (by rw [F.out, e8]; rfl), hb.trans (B1.out.trans hS)⟩
            · have hgt : ¬ l[k].dot.1 ≤ l[k - 1].dot.1 := by omega
              go_roundw
              case rel => exact ⟨k + 1, by omega, by go_num, by rw [HV.out, if_neg (by simpa using hz), if_neg (fun e => hgt ((Sp.lastP_pos l k _ h0' (by omega)).1 e))], hb.trans (B1.out.trans hS)⟩
              case measure => simp [intOf]; omega
        · have b2 : (Sp.vercheck l[k] != 0) = true := by simpa using hz
          go_wp2_with fail
          go_ret
          have e8 : Sp.lgo none l = Sp.vercheck l[k] := by rw [HV.out, if_pos hz]
          exact ⟨ret_int (by rw [F.out, e8, if_pos hz]), hb.trans B1.out⟩
      · obtain rfl : k = l.length := by omega
        rw [List.drop_length, Sp.lgo] at hv
        have HV := Lib.hid hv
        have FF := Lib.hid (show Sp.leaf l = if (l.any fun v => Sp.covered l v) = true then 7 else 0 by rw [F.out, HV.out]; rfl)
        have HB := Lib.hid hb
        clear hv
        go_wp2_with fail
        go_loopw [5] (fun v5 wr => ∃ k : Nat, k ≤ l.length ∧ v5 = .int .i64 k ∧ (l.any fun v => Sp.covered l v) = ((l.drop k).any fun v => Sp.covered l v) ∧ Ext w wr) (fun v5 _ => l.length - (intOf v5).toNat)
        case atStart => exact ⟨0, Nat.zero_le _, rfl, rfl, HB.out⟩
        case round =>
          obtain ⟨k, hk, rfl, hv, hb⟩ := hrel
          by_cases hlt : k < l.length
          · have CC := Lib.hid fun B cap' => rcovered_calls l l[k] A B cap cap' _ (h.ext hb) (by omega)
            obtain ⟨g, o, rfl, hc⟩ := (h.ext hb).at (by omega)
            obtain ⟨A', c', ⟨c0, c1, c2, c3, c4⟩, hp⟩ := hc k hlt
            rw [List.drop_eq_getElem_cons hlt, List.any_cons] at hv
            have HV := Lib.hid hv
            clear hv hc hp
            go_wp2_with fail
            refine (CC.out A' c').mono ?_
            rintro e w1 ⟨rfl, hb1⟩
            have B1 := Lib.hid hb1
            clear hb1 c0 c1 c2 c3 c4
            go_wp2
            · go_ret
              exact ⟨ret_int (by rw [FF.out, HV.out]; simp_all), hb.trans B1.out⟩
            · go_roundw
              case rel => exact ⟨k + 1, by omega, by go_num, by rw [HV.out]; simp_all, hb.trans B1.out⟩
              case measure => simp [intOf]; omega
          · obtain rfl : k = l.length := by omega
            rw [List.drop_length] at hv
            have HV := Lib.hid hv
            clear hv
            go_wp2
            go_ret
            exact ⟨ret_int (by rw [FF.out, HV.out]; rfl), hb⟩
set_option maxRecDepth 100000 in
set_option maxHeartbeats 4000000 in
theorem rsame_calls (l m : List Sp.Ver) (A B : Option Addr) (cap cap' : Nat) (w : World) (h : Vers w A l) (h' : Vers w B m) (hl : l.length ≤ 140737488351232) :
    Calls Tryz.prog 28 #[.slice A l.length cap, .slice B m.length cap'] w fun e w' => e = .returned (.bool (decide (l = m))) ∧ Ext w w' := by
  by_cases hlm : l.length = m.length
  · have b0 : ((l.length : Int) == (m.length : Int)) = true := by rw [hlm]; simp
    have b1 : ((l.length : Int) != (m.length : Int)) = false := by rw [hlm]; simp
    have HL := Lib.hid hlm
    clear hlm
    go_enter Tryz.func28, Tryz.ntmps28
    go_wp2
    go_loopw [5] (fun v13 wr => ∃ k : Nat, k ≤ l.length ∧ v13 = .int .i64 k ∧ decide (l = m) = decide (l.drop k = m.drop k) ∧ Ext w wr) (fun v13 _ => l.length - (intOf v13).toNat)
    case atStart => exact ⟨0, Nat.zero_le _, rfl, rfl, Ext.refl _⟩
    case round =>
      obtain ⟨k, hk, rfl, hv, hb⟩ := hrel
      by_cases hlt : k < l.length
      · have hlt' : k < m.length := by have := HL.out; omega
        obtain ⟨g, o, rfl, hc⟩ := (h.ext hb).at (by omega)
        obtain ⟨g', o', rfl, hc'⟩ := (h'.ext hb).at (by omega)
        obtain ⟨A', ca, ⟨c0, c1, c2, c3, c4⟩, hp⟩ := hc k hlt
        obtain ⟨B', cb, ⟨d0, d1, d2, d3, d4⟩, hp'⟩ := hc' k hlt'
        rw [Sp.beq_drop l m k hlt hlt'] at hv
        have HV := Lib.hid hv
        have C := Lib.hid fun W (e : Ext wr W) => rsamever_calls l[k] m[k] A' B' ca cb W (hp.ext e) (hp'.ext e)
        clear hv hc hc' hp hp'
        go_wp2_with fail
        refine wp_region_det (fun W => Ext wr W) (by kernel_rfl) (by kernel_rfl) (Below.refl _ _).drew ?_
        repeat (first
          | (refine det_step (fun K hK => ?_)
             apply Exists.intro
             refine ⟨Or.inl ⟨rfl, fun W hS => ?_⟩, ?_⟩
             · replace hS : Ext wr W := hS
               have f0 := hS.cell c0; have f1 := hS.cell c1; have f2 := hS.cell c2; have f3 := hS.cell c3; have f4 := hS.cell c4; have z0 := hS.cell d0; have z1 := hS.cell d1; have z2 := hS.cell d2; have z3 := hS.cell d3; have z4 := hS.cell d4
               go_simp
               first
               | exact rfl
               | exact ⟨rfl, hS⟩
               | (refine (C.out W hS).mono ?_; rintro e w1 ⟨rfl, hb1⟩; exact ⟨rfl, hS.trans hb1⟩)
             go_simp
             refine hK _ ?_
             clear hK K)
          | (refine det_step (fun K hK => ?_); refine det_no' rfl ?_; go_simp; refine hK _ ?_; clear hK K))
        refine det_nil ?_
        intro W9 hS
        replace hS : Ext _ W9 := hS
        go_wp2
        · go_ret
          refine ⟨?_, hb.trans hS⟩
          have := HV.out
          simp_all
        · go_roundw
          case rel =>
            refine ⟨k + 1, by omega, by go_num, ?_, hb.trans hS⟩
            have := HV.out
            simp_all
          case measure => simp [intOf]; omega
      · obtain rfl : k = l.length := by omega
        have HV := Lib.hid hv
        clear hv
        go_wp2
        go_ret
        exact ⟨by rw [HV.out, List.drop_length, HL.out, List.drop_length]; rfl, hb⟩
  · have b0 : ((l.length : Int) == (m.length : Int)) = false := by rw [beq_eq_false_iff_ne]; omega
    have b1 : ((l.length : Int) != (m.length : Int)) = true := by rw [bne_iff_ne]; omega
    have F := Lib.hid (show decide (l = m) = false by rw [decide_eq_false_iff_not]; rintro rfl; exact hlm rfl)
    clear hlm
    go_enter Tryz.func28, Tryz.ntmps28
    go_wp2
    go_ret
    exact ⟨by rw [F.out]; rfl, Ext.refl _⟩
end Go.Proofs.YtmlfnidckfeebaaGreatDoor
namespace Go.Proofs.YtmlfnidckfeebaaGreatDoor
open Go.RowKit Go.Shelf
namespace Sp
theorem wfail_zero (x : W) : wfail 0 x = x := by
  unfold wfail
  split
  · rename_i h; obtain ⟨a, b⟩ := x; simp at h; rw [h]
  · rfl
theorem wfail_bad (e : Int) (x : W) (h : e ≠ 0) : (wfail e x).2 ≠ 0 := by
  unfold wfail; split
  · exact h
  · assumption
theorem wput_bad (b : Bool) (s : Bs) (x : W) (h : x.2 ≠ 0) : wput b s x = x := by unfold wput; rw [if_pos h]
theorem wnum_bad (n : Int) (x : W) (h : x.2 ≠ 0) : wnum n x = x := wput_bad _ _ _ h
theorem wtext_bad (s : Bs) (x : W) (h : x.2 ≠ 0) : wtext s x = x := wput_bad _ _ _ h
theorem wflag_bad (b : Bool) (x : W) (h : x.2 ≠ 0) : wflag b x = x := wput_bad _ _ _ h
theorem wdot_bad (d : Dot) (x : W) (h : x.2 ≠ 0) : wdot d x = x := by unfold wdot; rw [wnum_bad d.1 x h, wnum_bad d.2 x h]
theorem wdots_bad : ∀ (l : List Dot) (x : W), x.2 ≠ 0 → wdots l x = x
  | [], _, _ => rfl
  | d :: r, x, h => by
    have := wdots_bad r x h
    unfold wdots at *
    rw [List.foldl_cons, wdot_bad d x h, this]
theorem wfail_done (e : Int) (x : W) (h : x.2 ≠ 0) : wfail e x = x := by unfold wfail; rw [if_neg h]
theorem wvec_bad (v : List Dot) (x : W) (h : x.2 ≠ 0) : wvec v x = x := by
  unfold wvec; split
  · exact wfail_done _ _ h
  · rw [wnum_bad _ _ h, wdots_bad _ _ h]
theorem wver_bad (v : Ver) (x : W) (h : x.2 ≠ 0) : wver v x = x := by
  unfold wver; rw [wdot_bad _ _ h, wvec_bad _ _ h, wflag_bad _ _ h, wtext_bad _ _ h]
theorem wvers_bad : ∀ (l : List Ver) (x : W), x.2 ≠ 0 → wvers l x = x
  | [], _, _ => rfl
  | d :: r, x, h => by
    have := wvers_bad r x h
    unfold wvers at *
    rw [List.foldl_cons, wver_bad d x h, this]
theorem wvec_ref (v : List Dot) (x : W) : wdots v (wnum v.length (wfail (vcheck v) x)) = wvec v x := by
  unfold wvec
  by_cases h : vcheck v = 0
  · rw [if_neg (by simpa using h), h, wfail_zero]
  · rw [if_pos h]
    have := wfail_bad (vcheck v) x h
    rw [wnum_bad _ _ this, wdots_bad _ _ this]
theorem wleaf_ref (l : List Ver) (x : W) : wvers l (wnum l.length (wfail (leaf l) x)) = wleaf l x := by
  unfold wleaf
  by_cases h : leaf l = 0
  · rw [if_neg (by simpa using h), h, wfail_zero]
  · rw [if_pos h]
    have := wfail_bad (leaf l) x h
    rw [wnum_bad _ _ this, wvers_bad _ _ this]
end Sp
set_option maxRecDepth 100000 in
set_option maxHeartbeats 2000000 in
theorem rwflag_calls (g : Nat) (x : Sp.W) (b : Bool) (w : World) (h : isRW w g x) (hlen : x.1.length ≤ 100000000000000) :
    Calls Tryz.prog 254 #[.pointer (some ⟨g, 0, none⟩), .bool b] w fun e w' => e = .returned (.tuple #[]) ∧ RTo g (Sp.wflag b x) w w' := by
  cases b with
  | true =>
    have P := Lib.hid (rwput_calls g x true [1] w h (by simp; omega))
    clear h
    go_enter Tryz.func254, Tryz.ntmps254
    go_wp2_with fail
    refine P.out.mono ?_
    rintro e w1 ⟨rfl, h1, h2⟩
    go_wp2
    go_end0
    exact ⟨rfl, h1, h2⟩
  | false =>
    have P := Lib.hid (rwput_calls g x true [0] w h (by simp; omega))
    clear h
    go_enter Tryz.func254, Tryz.ntmps254
    go_wp2_with fail
    refine P.out.mono ?_
    rintro e w1 ⟨rfl, h1, h2⟩
    go_wp2
    go_end0
    exact ⟨rfl, h1, h2⟩
set_option maxRecDepth 100000 in
set_option maxHeartbeats 4000000 in
theorem rputvec_calls (w0 : World) (g : Nat) (x : Sp.W) (l : List Sp.Dot) (A : Option Addr) (cap : Nat) (w : World) (E : Ext w0 w) (hg : w0.heap.size ≤ g) (h : isRW w g x) (hD : Dots w0 A l) (hl : l.length ≤ 1000000) (hlen : x.1.length ≤ 10000000000000) :
    Calls Tryz.prog 128 #[.pointer (some ⟨g, 0, none⟩), .slice A l.length cap] w fun e w' => e = .returned (.tuple #[]) ∧ RTo g (Sp.wvec l x) w w' := by
  have F := Lib.hid (Sp.wvec_ref l x)
  have C1 := Lib.hid (rvcheck_calls l A cap w (hD.ext E) (by omega))
  have C2 := Lib.hid fun W (e : Ext w W) => rwfail_calls g x (Sp.vcheck l) W (h.below e)
  have lf := Sp.wfail_len (Sp.vcheck l) x
  have C3 := Lib.hid fun W (hw : isRW W g (Sp.wfail (Sp.vcheck l) x)) => rwnum_calls g _ l.length W hw (by omega)
  have ln := Sp.wnum_len (l.length : Int) (Sp.wfail (Sp.vcheck l) x)
  obtain ⟨y, hy⟩ : ∃ y, y = Sp.wnum (l.length : Int) (Sp.wfail (Sp.vcheck l) x) := ⟨_, rfl⟩
  rw [← hy] at C3 F ln
  clear h hy
  go_enter Tryz.func128, Tryz.ntmps128
  go_wp2_with fail
  refine C1.out.mono ?_
  rintro e w1 ⟨rfl, hb1⟩
  have B1 := Lib.hid hb1
  clear hb1
  go_wp2_with fail
  refine (C2.out w1 B1.out).mono ?_
  rintro e w2 ⟨rfl, hr2, ho2⟩
  have O2 := Lib.hid ((Only.of_below g B1.out).trans ho2)
  have C3' := Lib.hid (C3.out w2 hr2)
  clear ho2 hr2
  go_wp2_with fail
  refine C3'.out.mono ?_
  rintro e w3 ⟨rfl, hr3, ho3⟩
  have R3 := Lib.hid (show RTo g y w w3 from ⟨hr3, O2.out.trans ho3⟩)
  clear hr3 ho3
  go_wp2_with fail
  go_loopw [4] (fun v4 wr => ∃ i : Nat, i ≤ l.length ∧ v4 = .int .i64 i ∧ RTo g (Sp.wdots (l.take i) y) w wr) (fun v4 _ => l.length - (intOf v4).toNat)
  case atStart => exact ⟨0, Nat.zero_le _, rfl, R3.out⟩
  case round =>
    obtain ⟨i, hi, rfl, hw⟩ := hrel
    by_cases hlt : i < l.length
    · have eW := hw.ext hg E
      obtain ⟨ga, o, rfl, hc⟩ := hD.at (by omega)
      obtain ⟨c1', c2'⟩ := hc i hlt
      have c1 := eW.cell c1'
      have hyl := Sp.wdots_len (l.take i) y
      rw [List.length_take] at hyl
      have hl2 := Sp.wnum_len l[i].1 (Sp.wdots (l.take i) y)
      have D1 := Lib.hid (rwnum_calls g (Sp.wdots (l.take i) y) l[i].1 wr hw.wr (by omega))
      have D2 := Lib.hid fun W (h : isRW W g (Sp.wnum l[i].1 (Sp.wdots (l.take i) y))) => rwnum_calls g _ l[i].2 W h (by omega)
      have ST := Lib.hid (show Sp.wdots (l.take (i + 1)) y = Sp.wnum l[i].2 (Sp.wnum l[i].1 (Sp.wdots (l.take i) y)) by rw [List.take_succ_eq_append_getElem hlt, Sp.wdots_snoc]; rfl)
      have HW := Lib.hid hw.only
      have EW := Lib.hid eW
      have C2' := Lib.hid c2'
      clear hc hw eW hyl hl2 c1' c2'
      go_wp2_with fail
      refine D1.out.mono ?_
      rintro e w4 ⟨rfl, hr4, ho4⟩
      have E4 := EW.out.from' (ho4.below hg EW.out.size)
      have c2 := E4.cell C2'.out
      have D2' := Lib.hid (D2.out w4 hr4)
      have O4 := Lib.hid (HW.out.trans ho4)
      clear hr4 ho4 E4 c1
      go_wp2_with fail
      refine D2'.out.mono ?_
      rintro e w5 ⟨rfl, hr5, ho5⟩
      have R5 := Lib.hid hr5
      have O5 := Lib.hid (O4.out.trans ho5)
      clear hr5 ho5
      go_wp2_with fail
      go_roundw
      case rel => exact ⟨i + 1, by omega, by go_num, by rw [ST.out]; exact R5.out, O5.out⟩
      case measure => simp [intOf]; omega
    · obtain rfl : i = l.length := by omega
      rw [List.take_length] at hw
      have HW := Lib.hid hw
      clear hw
      go_wp2_with fail
      go_end0
      exact ⟨rfl, by rw [← F.out]; exact HW.out.wr, HW.out.only⟩
set_option maxRecDepth 100000 in
set_option maxHeartbeats 4000000 in
theorem rputleaf_calls (w0 : World) (g : Nat) (x : Sp.W) (l : List Sp.Ver) (A : Option Addr) (cap : Nat) (w : World) (E : Ext w0 w) (hg : w0.heap.size ≤ g) (h : isRW w g x) (hD : Vers w0 A l) (hl : l.length ≤ 1000) (hd : ∀ v ∈ l, v.data.length ≤ 100000 ∧ v.past.length ≤ 100000) (hlen : x.1.length ≤ 1000000000) :
    Calls Tryz.prog 198 #[.pointer (some ⟨g, 0, none⟩), .slice A l.length cap] w fun e w' => e = .returned (.tuple #[]) ∧ RTo g (Sp.wleaf l x) w w' := by
  have F := Lib.hid (Sp.wleaf_ref l x)
  have C1 := Lib.hid (rleaf_calls l A cap w (hD.ext E))
  have C2 := Lib.hid fun W (e : Ext w W) => rwfail_calls g x (Sp.leaf l) W (h.below e)
  have lf := Sp.wfail_len (Sp.leaf l) x
  have C3 := Lib.hid fun W (hw : isRW W g (Sp.wfail (Sp.leaf l) x)) => rwnum_calls g _ l.length W hw (by omega)
  have ln := Sp.wnum_len (l.length : Int) (Sp.wfail (Sp.leaf l) x)
  obtain ⟨y, hy⟩ : ∃ y, y = Sp.wnum (l.length : Int) (Sp.wfail (Sp.leaf l) x) := ⟨_, rfl⟩
  rw [← hy] at C3 F ln
  clear h hy
  go_enter Tryz.func198, Tryz.ntmps198
  go_wp2_with fail
  refine C1.out.mono ?_
  rintro e w1 ⟨rfl, hb1⟩
  have B1 := Lib.hid hb1
  clear hb1
  go_wp2_with fail
  refine (C2.out w1 B1.out).mono ?_
  rintro e w2 ⟨rfl, hr2, ho2⟩
  have O2 := Lib.hid ((Only.of_below g B1.out).trans ho2)
  have C3' := Lib.hid (C3.out w2 hr2)
  clear ho2 hr2
  go_wp2_with fail
  refine C3'.out.mono ?_
  rintro e w3 ⟨rfl, hr3, ho3⟩
  have R3 := Lib.hid (show RTo g y w w3 from ⟨hr3, O2.out.trans ho3⟩)
  clear hr3 ho3
  go_wp2_with fail
  go_loopw [4] (fun v4 wr => ∃ i : Nat, i ≤ l.length ∧ v4 = .int .i64 i ∧ RTo g (Sp.wvers (l.take i) y) w wr) (fun v4 _ => l.length - (intOf v4).toNat)
  case atStart => exact ⟨0, Nat.zero_le _, rfl, R3.out⟩
  case round =>
    obtain ⟨i, hi, rfl, hw⟩ := hrel
    by_cases hlt : i < l.length
    · have eW := hw.ext hg E
      obtain ⟨ga, o, rfl, hc⟩ := hD.at (by omega)
      obtain ⟨A', c', hvc, hp⟩ := hc i hlt
      have c0 := eW.cell hvc.c0
      have hyl := Sp.wvers_len (l.take i) 100000 (fun v hv => (hd v (List.mem_of_mem_take hv)).1) y
      rw [List.length_take] at hyl
      have hyb : (661 + 100000) * min i l.length ≤ (661 + 100000) * 1000 := Nat.mul_le_mul_left _ (by omega)
      have hdi := hd l[i] (List.getElem_mem hlt)
      obtain ⟨z, hz⟩ : ∃ z, z = Sp.wvers (l.take i) y := ⟨_, rfl⟩
      rw [← hz] at hyl hw
      have l1 := Sp.wnum_len l[i].dot.1 z
      have l2 := Sp.wnum_len l[i].dot.2 (Sp.wnum l[i].dot.1 z)
      have l3 := Sp.wvec_len l[i].past (Sp.wdot l[i].dot z)
      have l4 := Sp.wflag_len l[i].dead (Sp.wvec l[i].past (Sp.wdot l[i].dot z))
      have l0 := Sp.wdot_len l[i].dot z
      have D1 := Lib.hid (rwnum_calls g z l[i].dot.1 wr hw.wr (by omega))
      have D2 := Lib.hid fun W (h : isRW W g (Sp.wnum l[i].dot.1 z)) => rwnum_calls g _ l[i].dot.2 W h (by omega)
      have D3 := Lib.hid fun W (e : Ext w0 W) (h : isRW W g (Sp.wdot l[i].dot z)) => rputvec_calls w0 g _ l[i].past A' c' W e hg h hp.1 (by omega) (by omega)
      have D4 := Lib.hid fun W (h : isRW W g (Sp.wvec l[i].past (Sp.wdot l[i].dot z))) => rwflag_calls g _ l[i].dead W h (by omega)
      have D5 := Lib.hid fun W (h : isRW W g (Sp.wflag l[i].dead (Sp.wvec l[i].past (Sp.wdot l[i].dot z)))) => rwtext_calls g _ (strOf l[i].data) W h (by omega) (by rw [strOf_size]; omega)
      have ST := Lib.hid (show Sp.wvers (l.take (i + 1)) y = Sp.wver l[i] z by rw [List.take_succ_eq_append_getElem hlt, Sp.wvers_snoc, hz])
      rw [strOf_data] at D5
      have HW := Lib.hid hw.only
      have EW := Lib.hid eW
      have HV := Lib.hid hvc
      clear hc hw eW hyl hyb hdi hz l1 l2 l3 l4 l0 hvc hp
      go_wp2_with fail
      refine D1.out.mono ?_
      rintro e w4 ⟨rfl, hr4, ho4⟩
      have E4 := Lib.hid (EW.out.from' (ho4.below hg EW.out.size))
      have c1 := E4.out.cell HV.out.c1
      have D2' := Lib.hid (D2.out w4 hr4)
      have O4 := Lib.hid (HW.out.trans ho4)
      clear hr4 ho4 c0
      go_wp2_with fail
      refine D2'.out.mono ?_
      rintro e w5 ⟨rfl, hr5, ho5⟩
      have E5 := Lib.hid (E4.out.from' (ho5.below hg E4.out.size))
      have c2 := E5.out.cell HV.out.c2
      have D3' := Lib.hid (D3.out w5 E5.out hr5)
      have O5 := Lib.hid (O4.out.trans ho5)
      clear hr5 ho5 c1
      go_wp2_with fail
      refine D3'.out.mono ?_
      rintro e w6 ⟨rfl, hr6⟩
      have E6 := Lib.hid (E5.out.from' (hr6.only.below hg E5.out.size))
      have c3 := E6.out.cell HV.out.c3
      have D4' := Lib.hid (D4.out w6 hr6.wr)
      have O6 := Lib.hid (O5.out.trans hr6.only)
      clear hr6 c2
      go_wp2_with fail
      refine D4'.out.mono ?_
      rintro e w7 ⟨rfl, hr7⟩
      have E7 := Lib.hid (E6.out.from' (hr7.only.below hg E6.out.size))
      have c4 := E7.out.cell HV.out.c4
      have D5' := Lib.hid (D5.out w7 hr7.wr)
      have O7 := Lib.hid (O6.out.trans hr7.only)
      clear hr7 c3
      go_wp2_with fail
      refine D5'.out.mono ?_
      rintro e w8 ⟨rfl, hr8, ho8⟩
      have R8 := Lib.hid hr8
      have O8 := Lib.hid (O7.out.trans ho8)
      clear hr8 ho8
      go_wp2_with fail
      go_roundw
      case rel => exact ⟨i + 1, by omega, by go_num, by rw [ST.out]; exact R8.out, O8.out⟩
      case measure => simp [intOf]; omega
    · obtain rfl : i = l.length := by omega
      rw [List.take_length] at hw
      have HW := Lib.hid hw
      clear hw
      go_wp2_with fail
      go_end0
      exact ⟨rfl, by rw [← F.out]; exact HW.out.wr, HW.out.only⟩
end Go.Proofs.YtmlfnidckfeebaaGreatDoor
