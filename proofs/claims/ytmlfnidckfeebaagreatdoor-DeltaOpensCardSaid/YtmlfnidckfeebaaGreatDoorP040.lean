/- Deltas: what the document says is opened, and where leaves differ. Deltas, plain: what is opened by the nodes of two trees is what the document opens. Deltas: the example of chapter 18. Walks: DeltaOpens. -/
import Derived.Test.YtmlfnidckfeebaaGreatDoorP024
import Derived.Test.YtmlfnidckfeebaaGreatDoorP039
namespace Go.Proofs.YtmlfnidckfeebaaGreatDoor
open Go.RowKit Go.Shelf
attribute [local go_sem] yUpon strOf_toList
namespace Sp
/-- The paths at which leaves differ, of those that are opened. -/
def dkeep (ma mb : List DE) (d : Bs) : Bool := decide (d ≠ []) && !decide (rget ma d = rget mb d)
end Sp
set_option maxRecDepth 100000 in
theorem ropened_calls (oa ob : Option Sp.T) (ma mb : List Sp.DE) (PA : Sp.Both oa ma) (PB : Sp.Both ob mb) (A B : Option Addr) (cap cap' : Nat) (w : World) (hA : EntsAt w A ma) (hB : EntsAt w B mb) (K : KeysAt w 0) :
    Calls Tryz.prog 21 #[.slice A ma.length cap, .slice B mb.length cap'] w fun e w' => ∃ v, e = .returned v ∧ w'.ownsRow w.heap.size 9 1 v (Sp.openS oa ob (ma ++ mb) 5 []).length (strsC (Sp.openS oa ob (ma ++ mb) 5 [])) ∧ Ext w w' := by
  have RO := Lib.hid (ropen_calls oa ob ma mb PA PB A B cap cap' 5 [] w (by decide) (by decide) (.inl rfl) hA hB K)
  clear PA PB hA hB K
  go_enter Tryz.func21, Tryz.ntmps21
  go_wp2_with fail
  refine RO.out.mono ?_
  rintro e w1 ⟨v1, rfl, hO1, hb1⟩
  have O1 := Lib.hid hO1
  have E1 := Lib.hid hb1
  clear hO1 hb1 RO
  go_wp2
  go_ret
  exact ⟨_, rfl, O1.out, E1.out⟩
set_option maxRecDepth 100000 in
set_option maxHeartbeats 4000000 in
theorem rdiffer_calls (oa ob : Option Sp.T) (ma mb : List Sp.DE) (PA : Sp.Both oa ma) (PB : Sp.Both ob mb) (A B : Option Addr) (cap cap' : Nat) (w : World) (hA : EntsAt w A ma) (hB : EntsAt w B mb) (K : KeysAt w 0) :
    Calls Tryz.prog 23 #[.slice A ma.length cap, .slice B mb.length cap'] w fun e w' => ∃ v, e = .returned v ∧ w'.ownsRow w.heap.size 9 1 v ((Sp.openS oa ob (ma ++ mb) 5 []).filter (Sp.dkeep ma mb)).length (strsC ((Sp.openS oa ob (ma ++ mb) 5 []).filter (Sp.dkeep ma mb))) ∧ Ext w w' := by
  have RO := Lib.hid (ropened_calls oa ob ma mb PA PB A B cap cap' w hA hB K)
  have LL := Sp.openS_len oa ob (ma ++ mb) (by have := PA.gm.2; have := PB.gm.2; rw [List.length_append]; omega) 5 []
  have p5' : (257 : Nat) ^ 5 = 1121154893057 := by decide
  rw [p5'] at LL
  obtain ⟨L, hL⟩ : ∃ L, L = Sp.openS oa ob (ma ++ mb) 5 [] := ⟨_, rfl⟩
  rw [← hL] at RO LL ⊢
  have HA := Lib.hid hA
  have HB := Lib.hid hB
  have la := PA.gm.2
  have lb := PB.gm.2
  have RGA := Lib.hid fun d W (e : Ext w W) => rget_calls ma A cap d W (HA.out.ext e) (by omega)
  have RGB := Lib.hid fun d W (e : Ext w W) => rget_calls mb B cap' d W (HB.out.ext e) (by omega)
  have VL := Lib.hid (show ∀ d, (Sp.rget ma d).length ≤ 140737488351232 from fun d => by
    rcases Sp.rget_mem ma d with h | ⟨e, he, h⟩
    · rw [h]; exact Nat.zero_le _
    · rw [h]; exact Nat.le_trans (PA.leaf e he) (by decide))
  clear hL PA PB hA hB K p5'
  go_enter Tryz.func23, Tryz.ntmps23
  go_wp2_with fail
  refine RO.out.mono ?_
  rintro e w1 ⟨v1, rfl, hO1, hb1⟩
  obtain ⟨A1, c1, rfl, hc1⟩ := own_read hO1
  have N1 := Lib.hid (show Nams w1 A1 L from hc1)
  have E1 := Lib.hid hb1
  clear hO1 hb1 hc1 RO
  go_wp2
  go_loopw [5, 7] (fun v5 v7 wr => ∃ k : Nat, k ≤ L.length ∧ v7 = .int .i64 k ∧ wr.ownsRow w1.heap.size 9 1 v5 ((L.take k).filter (Sp.dkeep ma mb)).length (strsC ((L.take k).filter (Sp.dkeep ma mb))) ∧ Ext w1 wr) (fun _ v7 _ => L.length - (intOf v7).toNat)
  case atStart => exact ⟨0, Nat.zero_le _, rfl, World.ownsRow_nil _ _ _ _, Ext.refl _⟩
  case round =>
    obtain ⟨k, hk, rfl, hO, hb⟩ := hrel
    by_cases hlt : k < L.length
    · obtain ⟨nb, no, rfl, hnm⟩ := N1.out.at (by omega)
      have C0 := Lib.hid (hnm k hlt)
      have FT := Lib.hid (Sp.filter_take (Sp.dkeep ma mb) L k hlt)
      have ql : ((L.take k).filter (Sp.dkeep ma mb)).length ≤ k := Nat.le_trans (List.length_filter_le _ _) (List.length_take_le _ _)
      obtain ⟨q, hq⟩ : ∃ q, q = (L.take k).filter (Sp.dkeep ma mb) := ⟨_, rfl⟩
      rw [← hq] at hO FT ql
      obtain ⟨x, hx⟩ : ∃ x, x = L[k] := ⟨_, rfl⟩
      rw [← hx] at C0 FT
      have HX := Lib.hid hb
      have HO := Lib.hid hO
      have EX := Lib.hid (E1.out.trans hb)
      have b1 : (k : Int) < (L.length : Int) := by omega
      have GA := Lib.hid (RGA.out x)
      have GB := Lib.hid (RGB.out x)
      have VX := Lib.hid (VL.out x)
      have DK := Lib.hid (show Sp.dkeep ma mb x = (decide (x ≠ []) && !decide (Sp.rget ma x = Sp.rget mb x)) from rfl)
      obtain ⟨p, hp⟩ : ∃ p, p = Sp.dkeep ma mb x := ⟨_, rfl⟩
      rw [← hp] at FT DK
      obtain ⟨lx, hlx⟩ : ∃ lx, lx = Sp.rget ma x := ⟨_, rfl⟩
      obtain ⟨ly, hly⟩ : ∃ ly, ly = Sp.rget mb x := ⟨_, rfl⟩
      rw [← hlx] at GA VX DK
      rw [← hly] at GB DK
      clear hb hO hq hx hnm hp hlx hly
      go_upto_region 6 with fail
      go_cut [37] (fun v37 wx => v37 = .bool p ∧ Ext wr wx)
      case first =>
        go_wp2_with fail
        refine wp_region_planT (fun W => Ext wr W) 19 [(true, 0), (true, 1), (true, 2), (true, 3), (true, 4), (true, 5), (true, 6), (true, 7), (true, 8), (true, 9), (true, 10), (true, 12), (true, 13), (true, 14), (true, 15), (true, 16), (false, 11), (false, 17), (false, 18)] (by kernel_rfl) (by kernel_rfl) (Ext.refl wr).drew ?_
        by_cases hx0 : x = []
        · have q1 : (x == []) = true := by rw [hx0]; rfl
          have q2 : x.isEmpty = true := by rw [hx0]; rfl
          have P0 := Lib.hid (show p = false by rw [DK.out, hx0]; rfl)
          clear hx0
          repeat (refine plan_float rfl (fun K hK => ?_)
                  first
                  | (apply Exists.intro
                     refine ⟨Or.inl ⟨rfl, fun W hS => ?_⟩, ?_⟩
                     · have hz : Ext wr W := hS; have f0 := (HX.out.trans hz).cell C0.out
                       go_simp
                       first | done | exact rfl
                     go_simp
                     refine hK _ ?_
                     clear hK K)
                  | (refine floatT_no' rfl ?_; go_simp; refine hK _ ?_; clear hK K))
          refine plan_only rfl (fun Q' hQ' => ?_)
          go_wp2
          refine hQ' _ _ (Ext.refl wr).drew ?_
          clear hQ'
          refine plan_only rfl (fun Q' hQ' => ?_)
          go_wp2
          refine hQ' _ _ (Ext.refl wr).drew ?_
          clear hQ'
          refine plan_only rfl (fun Q' hQ' => ?_)
          go_wp2
          refine hQ' _ _ (Ext.refl wr).drew ?_
          clear hQ'
          refine plan_nil ?_
          go_wp2
          refine ⟨rfl, ?_⟩
          go_wp2
          go_meet
          case rel => exact ⟨by rw [P0.out], (Ext.refl wr).drew⟩
        · have q1 : (x == []) = false := by rw [beq_eq_false_iff_ne]; exact hx0
          have q2 : x.isEmpty = false := by cases x with | nil => exact absurd rfl hx0 | cons _ _ => rfl
          have P0 := Lib.hid (show p = !decide (lx = ly) by rw [DK.out, decide_eq_true hx0, Bool.true_and])
          clear hx0
          repeat (refine plan_float rfl (fun K hK => ?_)
                  first
                  | (apply Exists.intro
                     refine ⟨Or.inl ⟨rfl, fun W hS => ?_⟩, ?_⟩
                     · have hz : Ext wr W := hS; have f0 := (HX.out.trans hz).cell C0.out
                       go_simp
                       first | done | exact rfl
                     go_simp
                     refine hK _ ?_
                     clear hK K)
                  | (refine floatT_no' rfl ?_; go_simp; refine hK _ ?_; clear hK K))
          refine plan_only rfl (fun Q' hQ' => ?_)
          go_wp2_with fail
          refine (GA.out _ (EX.out.trans (Ext.refl wr).drew)).mono ?_
          rintro e w6 ⟨Aa, ca, rfl, hva, rfl⟩
          have VA := Lib.hid hva
          clear hva
          go_wp2
          refine hQ' _ _ (Ext.refl wr).drew ?_
          clear hQ'
          refine plan_only rfl (fun Q' hQ' => ?_)
          go_wp2_with fail
          refine (GB.out _ (EX.out.trans (Ext.refl wr).drew)).mono ?_
          rintro e w6 ⟨Ab, cb, rfl, hvb, rfl⟩
          have VB := Lib.hid hvb
          clear hvb
          go_wp2
          refine hQ' _ _ (Ext.refl wr).drew ?_
          clear hQ'
          refine plan_only rfl (fun Q' hQ' => ?_)
          go_wp2_with fail
          refine (rsame_calls lx ly Aa Ab ca cb _ VA.out VB.out VX.out).mono ?_
          rintro e w7 ⟨rfl, hb7⟩
          have E7 := Lib.hid (show Ext wr w7 from ((Ext.refl wr).drew).trans hb7)
          clear hb7
          go_wp2
          refine hQ' _ _ E7.out ?_
          clear hQ'
          refine plan_nil ?_
          go_wp2
          refine ⟨rfl, ?_⟩
          go_wp2
          go_meet
          case rel => exact ⟨by rw [P0.out], E7.out⟩
      case rest =>
        obtain ⟨rfl, hbx⟩ := hcut
        obtain ⟨wx, hwx⟩ : ∃ wx, wx = wc := ⟨_, rfl⟩
        rw [← hwx] at hbx ⊢
        have EW := Lib.hid (HX.out.trans hbx)
        have OW := Lib.hid (own_ext HO.out hbx)
        have f0 := EW.out.cell C0.out
        clear hbx hwx
        cases p with
        | false =>
          have FT2 := Lib.hid (show (L.take (k + 1)).filter (Sp.dkeep ma mb) = q by rw [FT.out]; simp)
          go_wp2
          go_roundw
          case rel => exact ⟨k + 1, by omega, by go_num, by rw [FT2.out]; exact OW.out, EW.out⟩
          case measure => simp [intOf]; omega
        | true =>
          have FT2 := Lib.hid (show (L.take (k + 1)).filter (Sp.dkeep ma mb) = q ++ [x] by rw [FT.out]; simp)
          have tokA : True := trivial
          go_wp2_with (have _t := tokA; at_builtin; refine app_new appStr rfl _ _ rfl w1.heap.size _ q.length _ rfl OW.out #[.string (strOf x)] 9 1 rfl rfl (by intro u hu; simp at hu; subst hu; rfl) (by decide) (by omega) EW.out.size ?_; intro g9 cap9 w9 hown9 hgr9 hb9 hbg9; have O9 := Lib.hid hown9; have B9 := Lib.hid (Below.trans EW.out hb9); clear tokA _t hown9 hgr9 hb9 hbg9)
          go_roundw
          case rel =>
            refine ⟨k + 1, by omega, by go_num, ?_, B9.out⟩
            rw [FT2.out, List.length_append, strsC, List.map_append]
            exact O9.out
          case measure => simp [intOf]; omega
    · obtain rfl : k = L.length := by omega
      rw [List.take_length] at hO
      have HO := Lib.hid hO
      have HX := Lib.hid hb
      clear hO hb
      go_wp2
      go_ret
      exact ⟨_, rfl, own_lowT HO.out E1.out.size, E1.out.trans HX.out⟩
end Go.Proofs.YtmlfnidckfeebaaGreatDoor
namespace Go.Proofs.YtmlfnidckfeebaaGreatDoor
open Go.RowKit
namespace Sp
theorem keep_both {oa ob : Option T} {ma mb : List DE} (PA : Both oa ma) (PB : Both ob mb) {d : Bs} (hd : Dir d) : dkeep ma mb d = leafdiff (oa.getD .nil) (ob.getD .nil) d := by
  unfold dkeep leafdiff
  rw [(names_node PA hd).2, (names_node PB hd).2]
  by_cases h : d = []
  · subst h
    rw [leaf_root PA, leaf_root PB]
    rfl
  · rw [decide_eq_true h, Bool.true_and]
theorem differ_all {oa ob : Option T} {ma mb : List DE} (PA : Both oa ma) (PB : Both ob mb) : (openS oa ob (ma ++ mb) 5 []).filter (dkeep ma mb) = (openedT (oa.getD .nil) (ob.getD .nil)).filter (leafdiff (oa.getD .nil) (ob.getD .nil)) := by
  rw [opened_both PA PB]
  unfold openedT
  split
  · rfl
  · refine List.filter_congr fun d hd => keep_both PA PB (openT_dir PA PB 5 [] (.inl rfl) d hd)
end Sp
end Go.Proofs.YtmlfnidckfeebaaGreatDoor
namespace Go.Proofs.YtmlfnidckfeebaaGreatDoor
open Go.RowKit Go.Shelf
attribute [local go_sem] yUpon strOf_toList
set_option maxRecDepth 100000 in
set_option maxHeartbeats 4000000 in
theorem texts_big (l : List Sp.Bs) (A B : Option Addr) (cap cap' : Nat) (w : World) (h : Nams w A l) (h' : Nams w B l) (hl : l.length ≤ 1121154893057) :
    Calls Tryz.prog 19 #[.slice A l.length cap, .slice B l.length cap'] w fun e w' => e = .returned (.bool true) ∧ Ext w w' := by
  have HH := Lib.hid h
  have HH' := Lib.hid h'
  have b0 : ((l.length : Int) != (l.length : Int)) = false := by simp
  clear h h'
  go_enter Tryz.func19, Tryz.ntmps19
  go_wp2
  go_loopw [5] (fun v5 wr => ∃ k : Nat, k ≤ l.length ∧ v5 = .int .i64 k ∧ Ext w wr) (fun v5 _ => l.length - (intOf v5).toNat)
  case atStart => exact ⟨0, Nat.zero_le _, rfl, Ext.refl _⟩
  case round =>
    obtain ⟨k, hk, rfl, hb⟩ := hrel
    have HB := Lib.hid hb
    by_cases hlt : k < l.length
    · obtain ⟨g, o, rfl, hc⟩ := (HH.out.ext hb).at (by omega)
      obtain ⟨g', o', rfl, hc'⟩ := (HH'.out.ext hb).at (by omega)
      have c0 := hc k hlt
      have d0 := hc' k hlt
      obtain ⟨x, hx⟩ : ∃ x, x = l[k] := ⟨_, rfl⟩
      rw [← hx] at c0 d0
      have C0 := Lib.hid c0
      have D0 := Lib.hid d0
      have b2 : (k : Int) < (l.length : Int) := by omega
      clear hb hc hc' c0 d0 hx
      go_wp2_with fail
      refine wp_region_det (fun W => Ext wr W) (by kernel_rfl) (by kernel_rfl) (Below.refl _ _).drew ?_
      repeat (first
        | (refine det_step (fun K hK => ?_)
           apply Exists.intro
           refine ⟨Or.inl ⟨rfl, fun W hS => ?_⟩, ?_⟩
           · replace hS : Ext wr W := hS
             have f0 := hS.cell C0.out; have z0 := hS.cell D0.out
             go_simp
             first
             | exact rfl
             | exact ⟨rfl, hS⟩
             | (fail)
           go_simp
           refine hK _ ?_
           clear hK K)
        | (refine det_step (fun K hK => ?_); refine det_no' rfl ?_; go_simp; refine hK _ ?_; clear hK K))
      refine det_nil ?_
      intro W9 hS
      replace hS : Ext _ W9 := hS
      have EW := Lib.hid (HB.out.trans hS)
      clear hS
      go_wp2
      go_roundw
      case rel => exact ⟨k + 1, by omega, by go_num, EW.out⟩
      case measure => simp [intOf]; omega
    · obtain rfl : k = l.length := by omega
      clear hb
      go_wp2
      go_ret
      exact ⟨rfl, HB.out⟩
end Go.Proofs.YtmlfnidckfeebaaGreatDoor
namespace Go.Proofs.YtmlfnidckfeebaaGreatDoor
open Go.RowKit Go.Shelf
attribute [local go_sem] yUpon strOf_toList
set_option maxRecDepth 100000 in
set_option maxHeartbeats 8000000 in
theorem deltaOpens_calls (la lb : List Sp.DE) (A B : Option Addr) (cap cap' : Nat) (w : World) (hA : EntsAt w A la) (hB : EntsAt w B lb) (K : KeysAt w 2) (K2 : KeysAt w 0) (M : MaxAt w) :
    Calls Tryz.prog 3 #[.slice A la.length cap, .slice B lb.length cap'] w fun e w' => e = .returned (.bool true) ∧ Ext w w' := by
  have KK := Lib.hid K
  have KK2 := Lib.hid K2
  have MM := Lib.hid M
  have HA := Lib.hid hA
  have HB := Lib.hid hB
  have AW := Lib.hid fun W (e : Ext w W) => awake18_calls W (K.ext e) (max_kept M e)
  clear K K2 M hA hB
  go_enter Tryz.func3, Tryz.ntmps3
  go_wp2_with fail
  refine (great18_calls la lb A B cap cap' w HA.out HB.out).mono ?_
  rintro e w1 ⟨b, rfl, hgr, hb1⟩
  have B1 := Lib.hid (show Ext w w1 from hb1)
  have GR := Lib.hid hgr
  clear hb1 hgr
  cases b with
  | true =>
    go_wp2_with fail
    refine (AW.out w1 B1.out).mono ?_
    rintro e w2 ⟨rfl, hb2⟩
    go_wp2
    go_ret
    exact ⟨rfl, B1.out.trans hb2⟩
  | false =>
  obtain ⟨⟨hla, hpa⟩, hlb, hpb⟩ := GR.out (by first | rfl | trivial)
  clear GR
  go_wp2_with fail
  refine (both18_calls la lb A B cap cap' w1 (HA.out.ext B1.out) (HB.out.ext B1.out) hla hlb (KK.out.ext B1.out) (max_kept MM.out B1.out)).mono ?_
  rintro e w2 ⟨pa, pb, rfl, hta, htb, hb2⟩
  have TA := Lib.hid hta
  have TB := Lib.hid htb
  have B2 := Lib.hid (B1.out.trans hb2)
  clear hta htb hb2
  have PA := Lib.hid (Sp.both_of la)
  have PB := Lib.hid (Sp.both_of lb)
  have RA := Lib.hid fun W (e : Ext w W) => rof_calls la A cap W (HA.out.ext e) (by omega) (fun e he => Nat.le_trans (hpa e he) (by decide))
  have RB := Lib.hid fun W (e : Ext w W) => rof_calls lb B cap' W (HB.out.ext e) (by omega) (fun e he => Nat.le_trans (hpb e he) (by decide))
  obtain ⟨ma, hma⟩ : ∃ ma, ma = (Sp.rof [] la).1 := ⟨_, rfl⟩
  obtain ⟨mb, hmb⟩ : ∃ mb, mb = (Sp.rof [] lb).1 := ⟨_, rfl⟩
  rw [← hma] at PA RA
  rw [← hmb] at PB RB
  obtain ⟨oa, hoa⟩ : ∃ oa, oa = (Sp.ofT none la).1 := ⟨_, rfl⟩
  obtain ⟨ob, hob⟩ : ∃ ob, ob = (Sp.ofT none lb).1 := ⟨_, rfl⟩
  rw [← hoa] at PA TA
  rw [← hob] at PB TB
  obtain ⟨ok, hok⟩ : ∃ ok, ok = (decide ((Sp.ofT none la).2 = 0) && decide ((Sp.ofT none lb).2 = 0)) := ⟨_, rfl⟩
  rw [← hok]
  clear hma hmb hoa hob hok hpa hpb hla hlb
  cases ok with
  | false =>
    go_wp2_with fail
    refine (AW.out w2 B2.out).mono ?_
    rintro e w3 ⟨rfl, hb3⟩
    go_wp2
    go_ret
    exact ⟨rfl, B2.out.trans hb3⟩
  | true =>
  have OE := Sp.opened_both PA.out PB.out
  have DE := Sp.differ_all PA.out PB.out
  have DO := Lib.hid fun W (e : Ext w2 W) => Opened_calls oa ob ma mb PA.out PB.out (.pointer pa) (.pointer pb) W (TA.out.ext e) (TB.out.ext e) (KK.out.ext (B2.out.trans e)) (max_kept MM.out (B2.out.trans e))
  have DD := Lib.hid fun W (e : Ext w2 W) => Differ_calls oa ob ma mb PA.out PB.out (.pointer pa) (.pointer pb) W (TA.out.ext e) (TB.out.ext e) (KK.out.ext (B2.out.trans e)) (max_kept MM.out (B2.out.trans e))
  have RO := Lib.hid fun A B c c' W (e : Ext w W) hA hB => ropened_calls oa ob ma mb PA.out PB.out A B c c' W hA hB (KK2.out.ext e)
  have RD := Lib.hid fun A B c c' W (e : Ext w W) hA hB => rdiffer_calls oa ob ma mb PA.out PB.out A B c c' W hA hB (KK2.out.ext e)
  rw [OE] at RO
  rw [DE] at RD
  have OL := Sp.openS_len oa ob (ma ++ mb) (by have := PA.out.gm.2; have := PB.out.gm.2; rw [List.length_append]; omega) 5 []
  have p5' : (257 : Nat) ^ 5 = 1121154893057 := by decide
  rw [p5', OE] at OL
  have DL : (Sp.differT (oa.getD .nil) (ob.getD .nil)).length ≤ 1121154893057 := Nat.le_trans (List.length_filter_le _ _) OL
  have DE2 : (Sp.openedT (oa.getD .nil) (ob.getD .nil)).filter (Sp.leafdiff (oa.getD .nil) (ob.getD .nil)) = Sp.differT (oa.getD .nil) (ob.getD .nil) := rfl
  rw [DE2] at RD
  obtain ⟨O, hO⟩ : ∃ O, O = Sp.openedT (oa.getD .nil) (ob.getD .nil) := ⟨_, rfl⟩
  obtain ⟨D, hD⟩ : ∃ D, D = Sp.differT (oa.getD .nil) (ob.getD .nil) := ⟨_, rfl⟩
  rw [← hO] at DO RO OL
  rw [← hD] at DD RD DL
  clear OE DE DE2 hO hD p5' PA PB
  go_wp2_with fail
  refine (RA.out w2 B2.out).mono ?_
  rintro e w3 ⟨A3, c3, rfl, hE3, hb3⟩
  have E3 := Lib.hid hE3
  have B3 := Lib.hid hb3
  clear hE3 hb3 RA
  go_wp2_with fail
  refine (RB.out w3 (B2.out.trans B3.out)).mono ?_
  rintro e w4 ⟨A4, c4, rfl, hE4, hb4⟩
  have E4 := Lib.hid hE4
  have E34 := Lib.hid (E3.out.ext hb4)
  have B4 := Lib.hid (B3.out.trans hb4)
  clear hE4 hb4 RB E3
  go_wp2_with fail
  refine (DO.out w4 B4.out).mono ?_
  rintro e w5 ⟨v5, rfl, hO5, hb5⟩
  obtain ⟨A5, c5, rfl, hc5⟩ := own_read hO5
  have N5 := Lib.hid (show Nams w5 A5 O from hc5)
  have B5 := Lib.hid (B4.out.trans hb5)
  have X5 := Lib.hid (E34.out.ext hb5)
  have Y5 := Lib.hid (E4.out.ext hb5)
  clear hO5 hc5 hb5 DO
  go_wp2_with fail
  refine (RO.out A3 A4 c3 c4 w5 (B2.out.trans B5.out) X5.out Y5.out).mono ?_
  rintro e w6 ⟨v6, rfl, hO6, hb6⟩
  obtain ⟨A6, c6, rfl, hc6⟩ := own_read hO6
  have N6 := Lib.hid (show Nams w6 A6 O from hc6)
  have N56 := Lib.hid (N5.out.ext hb6)
  have B6 := Lib.hid (B5.out.trans hb6)
  have X6 := Lib.hid (X5.out.ext hb6)
  have Y6 := Lib.hid (Y5.out.ext hb6)
  clear hO6 hc6 hb6 RO N5 X5 Y5
  go_wp2_with fail
  refine (texts_big O A5 A6 c5 c6 w6 N56.out N6.out OL).mono ?_
  rintro e w7 ⟨rfl, hb7⟩
  have B7 := Lib.hid (B6.out.trans hb7)
  have X7 := Lib.hid (X6.out.ext hb7)
  have Y7 := Lib.hid (Y6.out.ext hb7)
  clear hb7 N56 N6 X6 Y6
  go_wp2_with fail
  refine (DD.out w7 B7.out).mono ?_
  rintro e w8 ⟨v8, rfl, hO8, hb8⟩
  obtain ⟨A8, c8, rfl, hc8⟩ := own_read hO8
  have N8 := Lib.hid (show Nams w8 A8 D from hc8)
  have B8 := Lib.hid (B7.out.trans hb8)
  have X8 := Lib.hid (X7.out.ext hb8)
  have Y8 := Lib.hid (Y7.out.ext hb8)
  clear hO8 hc8 hb8 DD
  go_wp2_with fail
  refine (RD.out A3 A4 c3 c4 w8 (B2.out.trans B8.out) X8.out Y8.out).mono ?_
  rintro e w9 ⟨v9, rfl, hO9, hb9⟩
  obtain ⟨A9, c9, rfl, hc9⟩ := own_read hO9
  have N9 := Lib.hid (show Nams w9 A9 D from hc9)
  have N89 := Lib.hid (N8.out.ext hb9)
  have B9 := Lib.hid (B8.out.trans hb9)
  clear hO9 hc9 hb9 RD N8
  go_wp2_with fail
  refine (texts_big D A8 A9 c8 c9 w9 N89.out N9.out DL).mono ?_
  rintro e w10 ⟨rfl, hb10⟩
  have B10 := Lib.hid (B2.out.trans (B9.out.trans hb10))
  clear hb10
  go_wp2_with fail
  refine (AW.out w10 B10.out).mono ?_
  rintro e w11 ⟨rfl, hb11⟩
  go_wp2
  go_ret
  exact ⟨rfl, B10.out.trans hb11⟩
end Go.Proofs.YtmlfnidckfeebaaGreatDoor
