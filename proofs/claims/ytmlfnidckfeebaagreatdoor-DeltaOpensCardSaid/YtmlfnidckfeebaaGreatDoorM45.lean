/- Deltas: the example of chapter 18. Walks: DeltaOpens. Entries that come in. -/
import Derived.Test.YtmlfnidckfeebaaGreatDoorM44
import Derived.Test.YtmlfnidckfeebaaGreatDoorM31
import Derived.Deep.SlicePairs
import Derived.Carry
import Derived.WideShapes
import Derived.ChangeArms
import Derived.OpenShut
import Derived.MakeChecks
import Derived.Test.YtmlfnidckfeebaaGreatDoorM11
import Derived.Test.YtmlfnidckfeebaaGreatDoorM27
namespace Go.Proofs.YtmlfnidckfeebaaGreatDoor
open Go.RowKit Go.Shelf
attribute [local go_sem] yUpon strOf_toList
set_option maxRecDepth 100000 in
set_option maxHeartbeats 4000000 in
theorem texts_big (l : List Sp.Bs) (A B : Option Addr) (cap cap' : Nat) (w : World) (h : Nams w A l) (h' : Nams w B l) (hl : l.length ≤ 1121154893057) :
    Calls Tryz.prog 19 #[.slice A l.length cap, .slice B l.length cap'] w fun e w' => e = .returned (.bool true) ∧ Ext w w' := by
  have HH := Lib.hid h
  have HH' := Lib.hid h'
  have b0 : ((l.length : Int) != (l.length : Int)) = false := by simp
  clear h h'
  go_enter Tryz.func19, Tryz.ntmps19
  go_wp2
  go_loopw [5] (fun v5 wr => ∃ k : Nat, k ≤ l.length ∧ v5 = .int .i64 k ∧ Ext w wr) (fun v5 _ => l.length - (intOf v5).toNat)
  case atStart => exact ⟨0, Nat.zero_le _, rfl, Ext.refl _⟩
  case round =>
    obtain ⟨k, hk, rfl, hb⟩ := hrel
    have HB := Lib.hid hb
    by_cases hlt : k < l.length
    · obtain ⟨g, o, rfl, hc⟩ := (HH.out.ext hb).at (by omega)
      obtain ⟨g', o', rfl, hc'⟩ := (HH'.out.ext hb).at (by omega)
      have c0 := hc k hlt
      have d0 := hc' k hlt
      obtain ⟨x, hx⟩ : ∃ x, x = l[k] := ⟨_, rfl⟩
      rw [← hx] at c0 d0
      have C0 := Lib.hid c0
      have D0 := Lib.hid d0
      have b2 : (k : Int) < (l.length : Int) := by omega
      clear hb hc hc' c0 d0 hx
      go_wp2_with fail
      refine wp_region_det (fun W => Ext wr W) (by kernel_rfl) (by kernel_rfl) (Below.refl _ _).drew ?_
      repeat (first
        | (refine det_step (fun K hK => ?_)
           apply Exists.intro
           refine ⟨Or.inl ⟨rfl, fun W hS => ?_⟩, ?_⟩
           · replace hS : Ext wr W := hS
             have f0 := hS.cell C0.out; have z0 := hS.cell D0.out
             go_simp
             first
             | exact rfl
             | exact ⟨rfl, hS⟩
             | (fail)
           go_simp
           refine hK _ ?_
           clear hK K)
        | (refine det_step (fun K hK => ?_); refine det_no' rfl ?_; go_simp; refine hK _ ?_; clear hK K))
      refine det_nil ?_
      intro W9 hS
      replace hS : Ext _ W9 := hS
      have EW := Lib.hid (HB.out.trans hS)
      clear hS
      go_wp2
      go_roundw
      case rel => exact ⟨k + 1, by omega, by go_num, EW.out⟩
      case measure => simp [intOf]; omega
    · obtain rfl : k = l.length := by omega
      clear hb
      go_wp2
      go_ret
      exact ⟨rfl, HB.out⟩
/-- An operation behind a guard that holds. -/
theorem wpList_unguard {P : Program} {ops : Array Oper} {rest : List Oper} {o : Oper} {a : Act} {w : World} {Q : Exit → Act → World → Prop} (hw : Region.wanted o (yielded ops a.tmps) = true)
    (h : wpList P ops Q ({ o with guard := none } :: rest) a w) : wpList P ops Q (o :: rest) a w := by
  unfold wpList at h ⊢
  rw [if_pos hw]
  rw [if_pos (by simp [Region.wanted])] at h
  exact h
set_option maxRecDepth 100000 in
set_option maxHeartbeats 8000000 in
theorem awake18_calls (w : World) (K : KeysAt w 2) (M : MaxAt w) :
    Calls Tryz.prog 16 #[] w fun e w' => e = .returned (.bool true) ∧ Ext w w' := by
  have KK := Lib.hid K
  have MM := Lib.hid M
  have tok : True := trivial
  have tokE : True := trivial
  clear K M
  go_enter Tryz.func16, Tryz.ntmps16
  go_wp2_with (first
    | (have _t := tok; (with_reducible refine at_bslice rfl ?_); refine bslice_new rfl 41 71 _ rfl appVer (by decide) (verC none 0 Sp.e18V) rfl rfl ?_; intro gv wv hgv hxv hbv; have XV := Lib.hid hxv; have BV := Lib.hid hbv; clear tok _t hgv hxv hbv)
    | (have _t := tokE; (with_reducible refine at_bslice rfl ?_); refine bslice_two rfl 22 43 _ _ rfl appEnt (by decide) #[.string (strOf [97, 47, 120]), .slice (some ⟨gv, 0, none⟩) 1 1] #[.string (strOf [98]), .slice (some ⟨gv, 0, none⟩) 1 1] rfl rfl rfl rfl ?_; clear tokE _t))
  obtain ⟨w1, hw1⟩ : ∃ w1, w1 = wv.alloc (.cells #[.string (strOf [97, 47, 120]), .slice (some ⟨gv, 0, none⟩) 1 1, .string (strOf [98]), .slice (some ⟨gv, 0, none⟩) 1 1] 43) := ⟨_, rfl⟩
  have X1 := (show isBlk w1 wv.heap.size 43 #[.string (strOf [97, 47, 120]), .slice (some ⟨gv, 0, none⟩) 1 1, .string (strOf [98]), .slice (some ⟨gv, 0, none⟩) 1 1] by rw [hw1]; exact box_at wv _ _)
  have E1 := Lib.hid (show Ext wv w1 by rw [hw1]; exact Ext.alloc _ _)
  have V1 := Lib.hid (vers_e18 Sp.e18V rfl (XV.out.below E1.out))
  have HE := ents_two X1 V1.out
  have B1 := Lib.hid (BV.out.trans E1.out)
  rw [← hw1]
  have OC := Lib.hid (of_calls Sp.e18X (some ⟨wv.heap.size, 0, none⟩) 2 w1 HE (by decide) (KK.out.ext B1.out) (max_kept MM.out B1.out))
  rw [Sp.e18_ofX] at OC
  have tokF : True := trivial
  clear hw1 X1 HE
  refine OC.out.mono ?_
  rintro e w2 ⟨v2, rfl, ht2, hb2⟩
  obtain ⟨pa, rfl⟩ := tree_ptr ht2
  have T2 := Lib.hid ht2
  have V2 := Lib.hid (V1.out.ext hb2)
  have B2 := Lib.hid (B1.out.trans hb2)
  clear ht2 hb2 OC V1
  go_wp2_with (have _t := tokF; (with_reducible refine at_bslice rfl ?_); refine bslice_two rfl 22 43 _ _ rfl appEnt (by decide) #[.string (strOf [98]), .slice (some ⟨gv, 0, none⟩) 1 1] #[.string (strOf [97, 47, 121]), .slice (some ⟨gv, 0, none⟩) 1 1] rfl rfl rfl rfl ?_; clear tokF _t)
  obtain ⟨w3, hw3⟩ : ∃ w3, w3 = w2.alloc (.cells #[.string (strOf [98]), .slice (some ⟨gv, 0, none⟩) 1 1, .string (strOf [97, 47, 121]), .slice (some ⟨gv, 0, none⟩) 1 1] 43) := ⟨_, rfl⟩
  have X3 := (show isBlk w3 w2.heap.size 43 #[.string (strOf [98]), .slice (some ⟨gv, 0, none⟩) 1 1, .string (strOf [97, 47, 121]), .slice (some ⟨gv, 0, none⟩) 1 1] by rw [hw3]; exact box_at w2 _ _)
  have E3 := Lib.hid (show Ext w2 w3 by rw [hw3]; exact Ext.alloc _ _)
  have HE := ents_two X3 (V2.out.ext E3.out)
  have B3 := Lib.hid (B2.out.trans E3.out)
  rw [← hw3]
  have OC := Lib.hid (of_calls Sp.e18Y (some ⟨w2.heap.size, 0, none⟩) 2 w3 HE (by decide) (KK.out.ext B3.out) (max_kept MM.out B3.out))
  rw [Sp.e18_ofY] at OC
  clear hw3 X3 HE
  refine OC.out.mono ?_
  rintro e w4 ⟨v4, rfl, ht4, hb4⟩
  obtain ⟨pb, rfl⟩ := tree_ptr ht4
  have TB := Lib.hid ht4
  have TA := Lib.hid (T2.out.ext (E3.out.trans hb4))
  have B4 := Lib.hid (B3.out.trans hb4)
  clear ht4 hb4 OC V2
  have PA := Lib.hid (Sp.both_of Sp.e18X)
  have PB := Lib.hid (Sp.both_of Sp.e18Y)
  rw [Sp.e18_ofX] at PA
  rw [Sp.e18_ofY] at PB
  obtain ⟨ma, hma⟩ : ∃ ma, ma = (Sp.rof [] Sp.e18X).1 := ⟨_, rfl⟩
  obtain ⟨mb, hmb⟩ : ∃ mb, mb = (Sp.rof [] Sp.e18Y).1 := ⟨_, rfl⟩
  rw [← hma] at PA
  rw [← hmb] at PB
  have D1 := Lib.hid fun W (e : Ext w4 W) => Opened_calls (some Sp.e18S) (some Sp.e18T) ma mb PA.out PB.out (.pointer pa) (.pointer pb) W (TA.out.ext e) (TB.out.ext e) (KK.out.ext (B4.out.trans e)) (max_kept MM.out (B4.out.trans e))
  have D2 := Lib.hid fun W (e : Ext w4 W) => Differ_calls (some Sp.e18S) (some Sp.e18T) ma mb PA.out PB.out (.pointer pa) (.pointer pb) W (TA.out.ext e) (TB.out.ext e) (KK.out.ext (B4.out.trans e)) (max_kept MM.out (B4.out.trans e))
  have D3 := Lib.hid fun W (e : Ext w4 W) => Opened_calls (some Sp.e18S) (some Sp.e18S) ma ma PA.out PA.out (.pointer pa) (.pointer pa) W (TA.out.ext e) (TA.out.ext e) (KK.out.ext (B4.out.trans e)) (max_kept MM.out (B4.out.trans e))
  simp only [Option.getD_some] at D1 D2 D3
  rw [Sp.e18_open] at D1
  rw [Sp.e18_differ] at D2
  rw [Sp.opened_self] at D3
  clear hma hmb PA PB TA TB T2
  have tok4 : True := trivial
  go_wp2_with fail
  refine (D1.out w4 (Ext.refl _)).mono ?_
  rintro e w5 ⟨v5, rfl, hO5, hb5⟩
  obtain ⟨A5, c5, rfl, hc5⟩ := own_read hO5
  have N5 := Lib.hid (show Nams w5 A5 [[], [97], [97, 47, 120], [97, 47, 121]] from hc5)
  have B5 := Lib.hid hb5
  clear hO5 hc5 hb5 D1
  go_wp2_with (have _t := tok4; (with_reducible refine at_bslice rfl ?_); refine bslice_four rfl 32 9 _ _ _ _ rfl appStr (by decide) #[.string (strOf [])] #[.string (strOf [97])] #[.string (strOf [97, 47, 120])] #[.string (strOf [97, 47, 121])] rfl rfl rfl rfl rfl rfl rfl rfl ?_; clear tok4 _t)
  obtain ⟨w6, hw6⟩ : ∃ w6, w6 = w5.alloc (.cells #[.string (strOf []), .string (strOf [97]), .string (strOf [97, 47, 120]), .string (strOf [97, 47, 121])] 9) := ⟨_, rfl⟩
  have N6 := Lib.hid (show Nams w6 (some ⟨w5.heap.size, 0, none⟩) [[], [97], [97, 47, 120], [97, 47, 121]] from nams_blk (t := 9) (by rw [hw6]; exact box_at w5 _ _))
  have B6 := Lib.hid (show Ext w4 w6 by rw [hw6]; exact B5.out.trans (Ext.alloc _ _))
  have N56 := Lib.hid (show Nams w6 A5 [[], [97], [97, 47, 120], [97, 47, 121]] by rw [hw6]; exact N5.out.ext (Ext.alloc _ _))
  rw [← hw6]
  clear hw6
  refine (texts_calls [[], [97], [97, 47, 120], [97, 47, 121]] A5 (some ⟨w5.heap.size, 0, none⟩) c5 4 w6 N56.out N6.out (by decide)).mono ?_
  rintro e w7 ⟨rfl, hb7⟩
  have B7 := Lib.hid (B6.out.trans hb7)
  have tok5 : True := trivial
  clear hb7 N5 N6 N56
  go_wp2_with fail
  refine (D2.out w7 B7.out).mono ?_
  rintro e w8 ⟨v8, rfl, hO8, hb8⟩
  obtain ⟨A8, c8, rfl, hc8⟩ := own_read hO8
  have N8 := Lib.hid (show Nams w8 A8 [[97, 47, 120], [97, 47, 121]] from hc8)
  have B8 := Lib.hid (B7.out.trans hb8)
  clear hO8 hc8 hb8 D2
  go_wp2_with (have _t := tok5; (with_reducible refine at_bslice rfl ?_); refine wpList_unguard rfl ?_; refine bslice_two rfl 32 9 _ _ rfl appStr (by decide) #[.string (strOf [97, 47, 120])] #[.string (strOf [97, 47, 121])] rfl rfl rfl rfl ?_; clear tok5 _t)
  obtain ⟨w9, hw9⟩ : ∃ w9, w9 = w8.alloc (.cells #[.string (strOf [97, 47, 120]), .string (strOf [97, 47, 121])] 9) := ⟨_, rfl⟩
  have N9 := Lib.hid (show Nams w9 (some ⟨w8.heap.size, 0, none⟩) [[97, 47, 120], [97, 47, 121]] from nams_blk (t := 9) (by rw [hw9]; exact box_at w8 _ _))
  have B9 := Lib.hid (show Ext w4 w9 by rw [hw9]; exact B8.out.trans (Ext.alloc _ _))
  have N89 := Lib.hid (show Nams w9 A8 [[97, 47, 120], [97, 47, 121]] by rw [hw9]; exact N8.out.ext (Ext.alloc _ _))
  rw [← hw9]
  clear hw9
  refine (texts_calls [[97, 47, 120], [97, 47, 121]] A8 (some ⟨w8.heap.size, 0, none⟩) c8 2 w9 N89.out N9.out (by decide)).mono ?_
  rintro e w10 ⟨rfl, hb10⟩
  have B10 := Lib.hid (B9.out.trans hb10)
  clear hb10 N8 N9 N89
  go_wp2_with fail
  refine (D3.out w10 B10.out).mono ?_
  rintro e w11 ⟨v11, rfl, hO11, hb11⟩
  obtain ⟨A11, c11, rfl, _⟩ := own_read hO11
  have B11 := Lib.hid (B10.out.trans hb11)
  clear hO11 hb11
  go_wp2
  go_ret
  exact ⟨rfl, B4.out.trans B11.out⟩
end Go.Proofs.YtmlfnidckfeebaaGreatDoor
namespace Go.Proofs.YtmlfnidckfeebaaGreatDoor
open Go.RowKit Go.Shelf
attribute [local go_sem] yUpon strOf_toList
set_option maxRecDepth 100000 in
set_option maxHeartbeats 8000000 in
theorem deltaOpens_calls (la lb : List Sp.DE) (A B : Option Addr) (cap cap' : Nat) (w : World) (hA : EntsAt w A la) (hB : EntsAt w B lb) (K : KeysAt w 2) (K2 : KeysAt w 0) (M : MaxAt w) :
    Calls Tryz.prog 3 #[.slice A la.length cap, .slice B lb.length cap'] w fun e w' => e = .returned (.bool true) ∧ Ext w w' := by
  have KK := Lib.hid K
  have KK2 := Lib.hid K2
  have MM := Lib.hid M
  have HA := Lib.hid hA
  have HB := Lib.hid hB
  have AW := Lib.hid fun W (e : Ext w W) => awake18_calls W (K.ext e) (max_kept M e)
  clear K K2 M hA hB
  go_enter Tryz.func3, Tryz.ntmps3
  go_wp2_with fail
  refine (great18_calls la lb A B cap cap' w HA.out HB.out).mono ?_
  rintro e w1 ⟨b, rfl, hgr, hb1⟩
  have B1 := Lib.hid (show Ext w w1 from hb1)
  have GR := Lib.hid hgr
  clear hb1 hgr
  cases b with
  | true =>
    go_wp2_with fail
    refine (AW.out w1 B1.out).mono ?_
    rintro e w2 ⟨rfl, hb2⟩
    go_wp2
    go_ret
    exact ⟨rfl, B1.out.trans hb2⟩
  | false =>
  obtain ⟨⟨hla, hpa⟩, hlb, hpb⟩ := GR.out (by first | rfl | trivial)
  clear GR
  go_wp2_with fail
  refine (both18_calls la lb A B cap cap' w1 (HA.out.ext B1.out) (HB.out.ext B1.out) hla hlb (KK.out.ext B1.out) (max_kept MM.out B1.out)).mono ?_
  rintro e w2 ⟨pa, pb, rfl, hta, htb, hb2⟩
  have TA := Lib.hid hta
  have TB := Lib.hid htb
  have B2 := Lib.hid (B1.out.trans hb2)
  clear hta htb hb2
  have PA := Lib.hid (Sp.both_of la)
  have PB := Lib.hid (Sp.both_of lb)
  have RA := Lib.hid fun W (e : Ext w W) => rof_calls la A cap W (HA.out.ext e) (by omega) (fun e he => Nat.le_trans (hpa e he) (by decide))
  have RB := Lib.hid fun W (e : Ext w W) => rof_calls lb B cap' W (HB.out.ext e) (by omega) (fun e he => Nat.le_trans (hpb e he) (by decide))
  obtain ⟨ma, hma⟩ : ∃ ma, ma = (Sp.rof [] la).1 := ⟨_, rfl⟩
  obtain ⟨mb, hmb⟩ : ∃ mb, mb = (Sp.rof [] lb).1 := ⟨_, rfl⟩
  rw [← hma] at PA RA
  rw [← hmb] at PB RB
  obtain ⟨oa, hoa⟩ : ∃ oa, oa = (Sp.ofT none la).1 := ⟨_, rfl⟩
  obtain ⟨ob, hob⟩ : ∃ ob, ob = (Sp.ofT none lb).1 := ⟨_, rfl⟩
  rw [← hoa] at PA TA
  rw [← hob] at PB TB
  obtain ⟨ok, hok⟩ : ∃ ok, ok = (decide ((Sp.ofT none la).2 = 0) && decide ((Sp.ofT none lb).2 = 0)) := ⟨_, rfl⟩
  rw [← hok]
  clear hma hmb hoa hob hok hpa hpb hla hlb
  cases ok with
  | false =>
    go_wp2_with fail
    refine (AW.out w2 B2.out).mono ?_
    rintro e w3 ⟨rfl, hb3⟩
    go_wp2
    go_ret
    exact ⟨rfl, B2.out.trans hb3⟩
  | true =>
  have OE := Sp.opened_both PA.out PB.out
  have DE := Sp.differ_all PA.out PB.out
  have DO := Lib.hid fun W (e : Ext w2 W) => Opened_calls oa ob ma mb PA.out PB.out (.pointer pa) (.pointer pb) W (TA.out.ext e) (TB.out.ext e) (KK.out.ext (B2.out.trans e)) (max_kept MM.out (B2.out.trans e))
  have DD := Lib.hid fun W (e : Ext w2 W) => Differ_calls oa ob ma mb PA.out PB.out (.pointer pa) (.pointer pb) W (TA.out.ext e) (TB.out.ext e) (KK.out.ext (B2.out.trans e)) (max_kept MM.out (B2.out.trans e))
  have RO := Lib.hid fun A B c c' W (e : Ext w W) hA hB => ropened_calls oa ob ma mb PA.out PB.out A B c c' W hA hB (KK2.out.ext e)
  have RD := Lib.hid fun A B c c' W (e : Ext w W) hA hB => rdiffer_calls oa ob ma mb PA.out PB.out A B c c' W hA hB (KK2.out.ext e)
  rw [OE] at RO
  rw [DE] at RD
  have OL := Sp.openS_len oa ob (ma ++ mb) (by have := PA.out.gm.2; have := PB.out.gm.2; rw [List.length_append]; omega) 5 []
  have p5' : (257 : Nat) ^ 5 = 1121154893057 := by decide
  rw [p5', OE] at OL
  have DL : (Sp.differT (oa.getD .nil) (ob.getD .nil)).length ≤ 1121154893057 := Nat.le_trans (List.length_filter_le _ _) OL
  have DE2 : (Sp.openedT (oa.getD .nil) (ob.getD .nil)).filter (Sp.leafdiff (oa.getD .nil) (ob.getD .nil)) = Sp.differT (oa.getD .nil) (ob.getD .nil) := rfl
  rw [DE2] at RD
  obtain ⟨O, hO⟩ : ∃ O, O = Sp.openedT (oa.getD .nil) (ob.getD .nil) := ⟨_, rfl⟩
  obtain ⟨D, hD⟩ : ∃ D, D = Sp.differT (oa.getD .nil) (ob.getD .nil) := ⟨_, rfl⟩
  rw [← hO] at DO RO OL
  rw [← hD] at DD RD DL
  clear OE DE DE2 hO hD p5' PA PB
  go_wp2_with fail
  refine (RA.out w2 B2.out).mono ?_
  rintro e w3 ⟨A3, c3, rfl, hE3, hb3⟩
  have E3 := Lib.hid hE3
  have B3 := Lib.hid hb3
  clear hE3 hb3 RA
  go_wp2_with fail
  refine (RB.out w3 (B2.out.trans B3.out)).mono ?_
  rintro e w4 ⟨A4, c4, rfl, hE4, hb4⟩
  have E4 := Lib.hid hE4
  have E34 := Lib.hid (E3.out.ext hb4)
  have B4 := Lib.hid (B3.out.trans hb4)
  clear hE4 hb4 RB E3
  go_wp2_with fail
  refine (DO.out w4 B4.out).mono ?_
  rintro e w5 ⟨v5, rfl, hO5, hb5⟩
  obtain ⟨A5, c5, rfl, hc5⟩ := own_read hO5
  have N5 := Lib.hid (show Nams w5 A5 O from hc5)
  have B5 := Lib.hid (B4.out.trans hb5)
  have X5 := Lib.hid (E34.out.ext hb5)
  have Y5 := Lib.hid (E4.out.ext hb5)
  clear hO5 hc5 hb5 DO
  go_wp2_with fail
  refine (RO.out A3 A4 c3 c4 w5 (B2.out.trans B5.out) X5.out Y5.out).mono ?_
  rintro e w6 ⟨v6, rfl, hO6, hb6⟩
  obtain ⟨A6, c6, rfl, hc6⟩ := own_read hO6
  have N6 := Lib.hid (show Nams w6 A6 O from hc6)
  have N56 := Lib.hid (N5.out.ext hb6)
  have B6 := Lib.hid (B5.out.trans hb6)
  have X6 := Lib.hid (X5.out.ext hb6)
  have Y6 := Lib.hid (Y5.out.ext hb6)
  clear hO6 hc6 hb6 RO N5 X5 Y5
  go_wp2_with fail
  refine (texts_big O A5 A6 c5 c6 w6 N56.out N6.out OL).mono ?_
  rintro e w7 ⟨rfl, hb7⟩
  have B7 := Lib.hid (B6.out.trans hb7)
  have X7 := Lib.hid (X6.out.ext hb7)
  have Y7 := Lib.hid (Y6.out.ext hb7)
  clear hb7 N56 N6 X6 Y6
  go_wp2_with fail
  refine (DD.out w7 B7.out).mono ?_
  rintro e w8 ⟨v8, rfl, hO8, hb8⟩
  obtain ⟨A8, c8, rfl, hc8⟩ := own_read hO8
  have N8 := Lib.hid (show Nams w8 A8 D from hc8)
  have B8 := Lib.hid (B7.out.trans hb8)
  have X8 := Lib.hid (X7.out.ext hb8)
  have Y8 := Lib.hid (Y7.out.ext hb8)
  clear hO8 hc8 hb8 DD
  go_wp2_with fail
  refine (RD.out A3 A4 c3 c4 w8 (B2.out.trans B8.out) X8.out Y8.out).mono ?_
  rintro e w9 ⟨v9, rfl, hO9, hb9⟩
  obtain ⟨A9, c9, rfl, hc9⟩ := own_read hO9
  have N9 := Lib.hid (show Nams w9 A9 D from hc9)
  have N89 := Lib.hid (N8.out.ext hb9)
  have B9 := Lib.hid (B8.out.trans hb9)
  clear hO9 hc9 hb9 RD N8
  go_wp2_with fail
  refine (texts_big D A8 A9 c8 c9 w9 N89.out N9.out DL).mono ?_
  rintro e w10 ⟨rfl, hb10⟩
  have B10 := Lib.hid (B2.out.trans (B9.out.trans hb10))
  clear hb10
  go_wp2_with fail
  refine (AW.out w10 B10.out).mono ?_
  rintro e w11 ⟨rfl, hb11⟩
  go_wp2
  go_ret
  exact ⟨rfl, B10.out.trans hb11⟩
end Go.Proofs.YtmlfnidckfeebaaGreatDoor
namespace Go.Proofs.YtmlfnidckfeebaaGreatDoor
open Go.RowKit Go.ChangeShapes Go.WideShapes Go.Deep
theorem addr_plus (g o j : Nat) : (⟨g, o, none⟩ : Addr).add j = ⟨g, o + j, none⟩ := by simp [Addr.add]
theorem cells_dots {w : World} {g o : Nat} {l : List Sp.Dot} (h : ∀ k (hk : k < l.length), w.cell? ⟨g, o + k * 2, none⟩ = some (.int .i64 (l[k]).1) ∧ w.cell? ⟨g, o + k * 2 + 1, none⟩ = some (.int .i64 (l[k]).2)) : Dots w (some ⟨g, o, none⟩) l := fun _ =>
  ⟨g, o, rfl, fun i u hi => by
    have hil : i < l.length * 2 := by
      rw [← dotsC_len]
      exact (List.getElem?_eq_some_iff.1 hi).1
    have hk : i / 2 < l.length := by omega
    have h1 := dotsC_get l (i / 2) hk
    have h2 := h (i / 2) hk
    rcases Nat.mod_two_eq_zero_or_one i with h0 | h0
    · have e : i / 2 * 2 = i := by omega
      rw [e] at h1 h2
      rw [h1.1] at hi
      rw [h2.1, hi]
    · have e : i / 2 * 2 + 1 = i := by omega
      have e2 : o + i / 2 * 2 + 1 = o + i := by omega
      rw [e] at h1
      rw [e2] at h2
      rw [h1.2] at hi
      rw [h2.2, hi]⟩
theorem cells_vers {w : World} {g o : Nat} {m : List (Option Addr × Nat × Sp.Ver)} (h : ∀ k (hk : k < m.length) j u, (verC m[k].1 m[k].2.1 m[k].2.2)[j]? = some u → w.cell? ⟨g, o + (k * 5 + j), none⟩ = some u) : Cells w (some ⟨g, o, none⟩) (versC m) := fun _ =>
  ⟨g, o, rfl, fun i u hi => by
    have hil : i < m.length * 5 := by
      rw [← versC_len]
      exact (List.getElem?_eq_some_iff.1 hi).1
    have hk : i / 5 < m.length := by omega
    have e : i / 5 * 5 + i % 5 = i := by omega
    have h1 := versC_get m (i / 5) (i % 5) hk (by omega)
    rw [e, hi] at h1
    have := h (i / 5) hk (i % 5) u h1.symm
    rwa [e] at this⟩
theorem cells_ents {w : World} {g o : Nat} {m : List (Option Addr × Nat × Sp.DE)} (h : ∀ k (hk : k < m.length), w.cell? ⟨g, o + k * 2, none⟩ = some (.string (strOf m[k].2.2.1)) ∧ w.cell? ⟨g, o + k * 2 + 1, none⟩ = some (.slice m[k].1 m[k].2.2.2.length m[k].2.1)) : Cells w (some ⟨g, o, none⟩) (entsC m) := fun _ =>
  ⟨g, o, rfl, fun i u hi => by
    have hil : i < m.length * 2 := by
      rw [← entsC_len]
      exact (List.getElem?_eq_some_iff.1 hi).1
    have hk : i / 2 < m.length := by omega
    have e : i / 2 * 2 + i % 2 = i := by omega
    have h1 := entsC_get m (i / 2) (i % 2) hk (by omega)
    rw [e, hi] at h1
    have h2 := h (i / 2) hk
    rcases Nat.mod_two_eq_zero_or_one i with h0 | h0
    · rw [h0] at h1 e
      rw [show i / 2 * 2 = i by omega] at h2
      rw [h2.1]
      simpa [entC] using h1.symm
    · rw [h0] at h1 e
      rw [show o + i / 2 * 2 + 1 = o + i by omega] at h2
      rw [h2.2]
      simpa [entC] using h1.symm⟩
section
variable {H : Type} {enc : TypeId × Value → H} {w : World} {base : Nat} {spare : Nat → Bool} {held : Bool}
theorem weights_mem {P : Program} {e : TypeId} : ∀ (l : List (DataW H)) (d : DataW H), d ∈ l → (DataW.weightsAll P e l).all (· ≤ reachBytes) = true → (d.weights P e).all (· ≤ reachBytes) = true
  | x :: r, d, h, ha => by
    unfold DataW.weightsAll at ha
    rw [List.all_append, Bool.and_eq_true] at ha
    rcases List.mem_cons.1 h with rfl | h
    · exact ha.1
    · exact weights_mem r d h ha.2
set_option maxRecDepth 100000 in
theorem open_dots {n : Nat} {cs : List Value} {x : DataW H × List MemPlace} (h : DataW.trod enc Tryz.prog w base spare held n 69 cs = some x) :
    ∃ (l : List Sp.Dot) (A : Option Addr) (cap : Nat), cs = [.slice A l.length cap] ∧ Dots w A l ∧ ((x.1.weights Tryz.prog 69).all (· ≤ reachBytes) = true → l.length ≤ 140737488351232) := by
  rcases open_slice_pairs Tryz.underlying69 Tryz.underlying68 (by kernel_rfl) rfl rfl (by kernel_rfl) (by kernel_rfl) h with ⟨hc, _⟩ | ⟨a, len, cap, m, n, V0, V1, D0, D1, P0, P1, hc, _, hl, hm, hmm, hx, hall⟩
  · exact ⟨[], none, 0, hc, Cells.nil _ _, fun _ => Nat.zero_le _⟩
  · have hlm : len ≤ m := by rw [hmm]; split <;> omega
    obtain ⟨g, o, spot⟩ := a
    refine ⟨(List.range len).map fun i => (intOf (V0 i), intOf (V1 i)), some ⟨g, o, spot⟩, cap, by simpa using hc, ?_, ?_⟩
    · rcases Nat.eq_zero_or_pos len with h0 | h0
      · subst h0; exact Cells.nil _ _
      · have hspot : spot = none := by simpa [Addr.add] using World.cell?_spot (hall 0 (by omega)).1
        subst hspot
        refine cells_dots fun k hk => ?_
        have hk' : k < len := by simpa using hk
        obtain ⟨h1, h2, h3, h4⟩ := hall k (by omega)
        obtain ⟨u, hu, _⟩ := DataW.trod_int Tryz.underlying3 h3
        obtain ⟨v, hv, _⟩ := DataW.trod_int Tryz.underlying3 h4
        simp only [List.cons.injEq, and_true] at hu hv
        rw [hu] at h1
        rw [hv] at h2
        rw [addr_plus] at h1 h2
        simp only [List.getElem_map, List.getElem_range, hu, hv, intOf]
        exact ⟨h1, h2⟩
    · intro ha
      rw [hx] at ha
      unfold DataW.weights at ha
      rw [Tryz.underlying69] at ha
      simp only [List.all_cons, Bool.and_eq_true, decide_eq_true_eq, List.length_map, List.length_range] at ha
      have hb : Tryz.prog.bytesOf 68 = 16 := by kernel_rfl
      have := ha.1
      rw [hb] at this
      simp only [reachBytes] at this
      simp only [List.length_map, List.length_range]
      omega
set_option maxRecDepth 100000 in
theorem open_ver {n : Nat} {cs : List Value} {x : DataW H × List MemPlace} (h : DataW.trod enc Tryz.prog w base spare held n 71 cs = some x) :
    ∃ y : Option Addr × Nat × Sp.Ver, cs = (verC y.1 y.2.1 y.2.2).toList ∧ Dots w y.1 y.2.2.past ∧ ((x.1.weights Tryz.prog 71).all (· ≤ reachBytes) = true → y.2.2.past.length ≤ 140737488351232) := by
  obtain ⟨xs, k, _, rfl, hl, hlen, hf⟩ := DataW.trod_struct Tryz.underlying71 h
  have c0 : Tryz.prog.cellsOf 71 = 5 := by kernel_rfl
  have c1 : Tryz.prog.cellsOf 68 = 2 := by kernel_rfl
  have c2 : Tryz.prog.cellsOf 69 = 1 := by kernel_rfl
  have c3 : Tryz.prog.cellsOf 4 = 1 := by kernel_rfl
  have c4 : Tryz.prog.cellsOf 9 = 1 := by kernel_rfl
  have c5 : Tryz.prog.cellsOf 3 = 1 := by kernel_rfl
  rw [c0] at hl
  match cs, hl, xs, hlen with
  | [a, b, c, d, e], _, [y0, y1, y2, y3], _ =>
    have g0 := hf 0 _ rfl
    have g1 := hf 1 _ rfl
    have g2 := hf 2 _ rfl
    have g3 := hf 3 _ rfl
    simp at g0 g1 g2 g3
    rw [c1] at g0
    rw [c2] at g1
    rw [c3] at g2
    rw [c4] at g3
    simp only [List.take_succ_cons, List.take_zero] at g0 g1 g2 g3
    obtain ⟨zs, k0, _, hz, hzl, hzlen, hzf⟩ := DataW.trod_struct Tryz.underlying68 g0
    match zs, hzlen with
    | [z0, z1], _ =>
      have i0 := hzf 0 _ rfl
      have i1 := hzf 1 _ rfl
      simp at i0 i1
      rw [c5] at i0 i1
      simp only [List.take_succ_cons, List.take_zero] at i0 i1
      obtain ⟨p, hp, _⟩ := DataW.trod_int Tryz.underlying3 i0
      obtain ⟨q, hq, _⟩ := DataW.trod_int Tryz.underlying3 i1
      obtain ⟨l, A, cap, hA, hd, hw⟩ := open_dots g1
      obtain ⟨bb, hbb, _⟩ := DataW.trod_bool Tryz.underlying4 g2
      obtain ⟨s, hs, _⟩ := DataW.trod_string Tryz.underlying9 g3
      simp only [List.cons.injEq, and_true] at hp hq hA hbb hs
      subst hp hq hA hbb hs
      refine ⟨(A, cap, ⟨(p, q), l, bb, s.data.toList⟩), ?_, hd, fun ha => hw ?_⟩
      · simp [strOf_self]
      · unfold DataW.weights at ha
        rw [Tryz.underlying71] at ha
        simp [DataW.weightsEach, List.all_append] at ha
        simpa using ha.2.1
set_option maxRecDepth 100000 in
theorem open_vers {n : Nat} {cs : List Value} {x : DataW H × List MemPlace} (h : DataW.trod enc Tryz.prog w base spare held n 41 cs = some x) :
    ∃ (l : List Sp.Ver) (A : Option Addr) (cap : Nat), cs = [.slice A l.length cap] ∧ ((x.1.weights Tryz.prog 41).all (· ≤ reachBytes) = true → Vers w A l) := by
  have ce : Tryz.prog.cellsOf 71 = 5 := by kernel_rfl
  rcases open_slice Tryz.underlying41 h with ⟨hc, _⟩ | ⟨a, len, cap, m, n, D, Pl, hc, _, hl, hm, hmm, hx, hall⟩
  · exact ⟨[], none, 0, hc, fun _ => Vers.nil _ _⟩
  · have hlm : len ≤ m := by rw [hmm]; split <;> omega
    obtain ⟨f, hf⟩ := choose_lt (n := len) (fun i hi => by
      obtain ⟨cs', h1, h2⟩ := hall i (by omega)
      obtain ⟨y, h3, h4, h5⟩ := open_ver h2
      exact ⟨y, (show w.cells? base (a.add (i * Tryz.prog.cellsOf 71)) (Tryz.prog.cellsOf 71) = some (verC y.1 y.2.1 y.2.2).toList ∧ Dots w y.1 y.2.2.past ∧ (((D i).weights Tryz.prog 71).all (· ≤ reachBytes) = true → y.2.2.past.length ≤ 140737488351232) from ⟨by rw [h1, h3], h4, h5⟩)⟩)
    obtain ⟨g, o, spot⟩ := a
    refine ⟨(List.range len).map fun i => (f i).2.2, some ⟨g, o, spot⟩, cap, by simpa using hc, fun ha => ?_⟩
    rcases Nat.eq_zero_or_pos len with h0 | h0
    · subst h0; exact Vers.nil _ _
    · have hcell : ∀ i, i < len → ∀ j u, (verC (f i).1 (f i).2.1 (f i).2.2)[j]? = some u → w.cell? ((⟨g, o, spot⟩ : Addr).add (i * 5 + j)) = some u := by
        intro i hi j u hj
        have h1 := (hf i hi).1
        rw [ce] at h1
        obtain ⟨_, h2, h3⟩ := World.cells?_some h1
        have hj5 : j < 5 := by
          have := (Array.getElem?_eq_some_iff.1 hj).1
          simpa using this
        have := h3 j hj5
        rw [add_add] at this
        rw [this, ← hj]
        simp
      have hspot : spot = none := by
        have := World.cell?_spot (hcell 0 h0 0 _ rfl)
        simpa [Addr.add] using this
      subst hspot
      refine ⟨(List.range len).map f, by simp, ?_, ?_⟩
      · refine cells_vers fun k hk j u hj => ?_
        have hk' : k < len := by simpa using hk
        simp only [List.getElem_map, List.getElem_range] at hj
        have := hcell k hk' j u hj
        rwa [addr_plus] at this
      · intro y hy
        obtain ⟨i, hi, rfl⟩ := List.mem_map.1 hy
        have hi' : i < len := by simpa using hi
        refine ⟨(hf i hi').2.1, (hf i hi').2.2 ?_⟩
        rw [hx] at ha
        unfold DataW.weights at ha
        rw [Tryz.underlying41] at ha
        simp only [List.all_cons, List.all_append, Bool.and_eq_true] at ha
        exact weights_mem _ _ (List.mem_map.2 ⟨i, List.mem_range.2 hi', rfl⟩) ha.2.1
set_option maxRecDepth 100000 in
theorem open_ents {n : Nat} {cs : List Value} {x : DataW H × List MemPlace} (h : DataW.trod enc Tryz.prog w base spare held n 22 cs = some x) :
    ∃ (l : List Sp.DE) (A : Option Addr) (cap : Nat), cs = [.slice A l.length cap] ∧ ((x.1.weights Tryz.prog 22).all (· ≤ reachBytes) = true → EntsAt w A l) := by
  rcases open_slice_pairs Tryz.underlying22 Tryz.underlying43 (by kernel_rfl) rfl rfl (by kernel_rfl) (by kernel_rfl) h with ⟨hc, _⟩ | ⟨a, len, cap, m, n, V0, V1, D0, D1, P0, P1, hc, _, hl, hm, hmm, hx, hall⟩
  · exact ⟨[], none, 0, hc, fun _ => ⟨[], rfl, Cells.nil _ _, fun _ h => by cases h⟩⟩
  · have hlm : len ≤ m := by rw [hmm]; split <;> omega
    obtain ⟨g, o, spot⟩ := a
    obtain ⟨f, hf⟩ := choose_lt (n := len) (p := fun i (y : Option Addr × Nat × Sp.DE) => w.cell? ((⟨g, o, spot⟩ : Addr).add (i * 2)) = some (.string (strOf y.2.2.1)) ∧ w.cell? ((⟨g, o, spot⟩ : Addr).add (i * 2 + 1)) = some (.slice y.1 y.2.2.2.length y.2.1) ∧ (((D1 i).weights Tryz.prog 41).all (· ≤ reachBytes) = true → Vers w y.1 y.2.2.2)) (fun i hi => by
      obtain ⟨h1, h2, h3, h4⟩ := hall i (by omega)
      obtain ⟨s, hs, _⟩ := DataW.trod_string Tryz.underlying9 h3
      obtain ⟨l, A, c, hA, hv⟩ := open_vers h4
      simp only [List.cons.injEq, and_true] at hs hA
      exact ⟨(A, c, (s.data.toList, l)), by rw [h1, hs, strOf_self], by rw [h2, hA], hv⟩)
    refine ⟨(List.range len).map fun i => (f i).2.2, some ⟨g, o, spot⟩, cap, by simpa using hc, fun ha => ?_⟩
    rcases Nat.eq_zero_or_pos len with h0 | h0
    · subst h0; exact ⟨[], rfl, Cells.nil _ _, fun _ h => by cases h⟩
    · have hspot : spot = none := by simpa [Addr.add] using World.cell?_spot (hall 0 (by omega)).1
      subst hspot
      refine ⟨(List.range len).map f, by simp, cells_ents fun k hk => ?_, ?_⟩
      · have hk' : k < len := by simpa using hk
        obtain ⟨h1, h2, _⟩ := hf k hk'
        rw [addr_plus] at h1 h2
        simp only [List.getElem_map, List.getElem_range]
        exact ⟨h1, h2⟩
      · intro y hy
        obtain ⟨i, hi, rfl⟩ := List.mem_map.1 hy
        have hi' : i < len := by simpa using hi
        refine (hf i hi').2.2 ?_
        rw [hx] at ha
        unfold DataW.weights at ha
        rw [Tryz.underlying22] at ha
        simp only [List.all_cons, List.all_append, Bool.and_eq_true] at ha
        have h1 := weights_mem _ _ (List.mem_map.2 ⟨i, List.mem_range.2 hi', rfl⟩) ha.2.1
        unfold DataW.weights at h1
        rw [Tryz.underlying43] at h1
        simp [DataW.weightsEach, List.all_append] at h1
        simpa using h1.2
end
theorem laid_var {P : Program} {w : World} : ∀ {l : List (String × DataW Unit)} {ps : List MemPlace}, DataW.LaidVars P w l ps → ∀ n d, (n, d) ∈ l →
    ∃ g t cs fuel p, P.globalNamed n = some g ∧ (P.globals[g]?).map (·.type) = some t ∧ w.var? P n = some cs ∧ DataW.trod (fun _ => ()) P w 0 (fun _ => true) false fuel t cs.toList = some (d, p)
  | (_, _) :: _, _, ⟨g, t, cs, fuel, p, q, h1, h2, h3, h4, h5, _⟩, n, d, h => by
    rcases List.mem_cons.1 h with h | h
    · cases h; exact ⟨g, t, cs, fuel, p, h1, h2, h3, h4⟩
    · exact laid_var h5 n d h
/-- The words of a digest's table, out of what is laid. -/
theorem keys_laid {P : Program} {w : World} {laid : List (String × DataW Unit)} {n : String} {g t e : Nat} (h : laidMetH P laid w) (hp : (laid.all fun x => x.2.handleName?.isNone) = true) (hg : P.globalNamed n = some g) (ht : (P.globals[g]?).map (·.type) = some t)
    (hu : P.underlying t = some (.array 64 e)) (he : P.underlying e = some (.int .u32)) (hc : P.cellsOf e = 1) (hct : P.cellsOf t = 64) (hm : (n, DataW.agg (Sp.keys.map fun k => .lit (.int .u32 (wd k)))) ∈ laid) : KeysAt w g := by
  rw [Go.MakeChecks.laidMetH_plain P laid w hp] at h
  obtain ⟨ps, hl, _⟩ := h
  obtain ⟨g', t', cs, fuel, p, h1, h2, h3, h4⟩ := laid_var hl _ _ hm
  obtain rfl : g' = g := Option.some.inj (h1.symm.trans hg)
  obtain rfl : t' = t := Option.some.inj (h2.symm.trans ht)
  obtain ⟨xs, k, _, hx, hlen, hxl, hf⟩ := DataW.trod_array hu h4
  rw [hct] at hlen
  simp only [Prod.mk.injEq, DataW.agg.injEq] at hx
  intro i hi
  have hkl : Sp.keys.length = 64 := by decide
  have h5 := hf i hi
  rw [hc, Nat.mul_one] at h5
  have hci : i < cs.toList.length := by omega
  rw [List.drop_eq_getElem_cons hci, List.take_succ_cons, List.take_zero, List.getElem?_eq_getElem (by omega)] at h5
  obtain ⟨m, h6, h7, _⟩ := DataW.trod_int he h5
  simp only [List.cons.injEq, and_true] at h6
  have h8 := congrArg (fun l => l[i]?) hx.1
  simp only [List.getElem?_map, List.getElem?_eq_getElem (show i < Sp.keys.length by omega), List.getElem?_eq_getElem (show i < xs.length by omega), h7, Option.map_some, Option.some.injEq, DataW.lit.injEq, Lit.int.injEq, true_and] at h8
  unfold World.var? at h3
  rw [h1] at h3
  simp only [Option.bind_some] at h3
  unfold World.cell?
  simp only
  split at h3
  · rename_i cs' t2 x2 hh
    obtain rfl : cs' = cs := Option.some.inj h3
    rw [hh]
    simp only [List.getD_eq_getElem?_getD, List.getElem?_eq_getElem (show i < Sp.keys.length by omega), Option.getD_some]
    have : cs'[i]? = some (.int .u32 m) := by
      rw [← h6]; simp
    rw [this, ← h8]
    rfl
  · cases h3
end Go.Proofs.YtmlfnidckfeebaaGreatDoor
