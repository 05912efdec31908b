/- Walks: DeltaAll. -/
import Derived.Test.YtmlfnidckfeebaaGreatDoorP024
import Derived.Test.YtmlfnidckfeebaaGreatDoorP036
namespace Go.Proofs.YtmlfnidckfeebaaGreatDoor
open Go.RowKit Go.Shelf
attribute [local go_sem] yUpon strOf_toList
set_option maxRecDepth 100000 in
set_option maxHeartbeats 16000000 in
theorem deltaAll_calls (la lb : List Sp.DE) (A B : Option Addr) (cap cap' : Nat) (w : World) (hA : EntsAt w A la) (hB : EntsAt w B lb) (K : KeysAt w 2) (K2 : KeysAt w 0) (M : MaxAt w) :
    Calls Tryz.prog 5 #[.slice A la.length cap, .slice B lb.length cap'] w fun e w' => e = .returned (.bool true) ∧ Ext w w' := by
  have KK := Lib.hid K
  have KK2 := Lib.hid K2
  have MM := Lib.hid M
  have HA := Lib.hid hA
  have HB := Lib.hid hB
  have AW := Lib.hid fun W (e : Ext w W) => awake18_calls W (K.ext e) (max_kept M e)
  clear K K2 M hA hB
  go_enter Tryz.func5, Tryz.ntmps5
  go_wp2_with fail
  refine (great18_calls la lb A B cap cap' w HA.out HB.out).mono ?_
  rintro e w1 ⟨b, rfl, hgr, hb1⟩
  have B1 := Lib.hid (show Ext w w1 from hb1)
  have GR := Lib.hid hgr
  clear hb1 hgr
  cases b with
  | true =>
    go_wp2_with fail
    refine (AW.out w1 B1.out).mono ?_
    rintro e w2 ⟨rfl, hb2⟩
    go_wp2
    go_ret
    exact ⟨rfl, B1.out.trans hb2⟩
  | false =>
  obtain ⟨⟨hla, hpa⟩, hlb, hpb⟩ := GR.out (by first | rfl | trivial)
  clear GR
  go_wp2_with fail
  refine (both18_calls la lb A B cap cap' w1 (HA.out.ext B1.out) (HB.out.ext B1.out) hla hlb (KK.out.ext B1.out) (max_kept MM.out B1.out)).mono ?_
  rintro e w2 ⟨pa, pb, rfl, hta, htb, hb2⟩
  have TA := Lib.hid hta
  have TB := Lib.hid htb
  have B2 := Lib.hid (B1.out.trans hb2)
  clear hta htb hb2
  have PA := Lib.hid (Sp.both_of la)
  have PB := Lib.hid (Sp.both_of lb)
  have RA := Lib.hid fun W (e : Ext w W) => rof_calls la A cap W (HA.out.ext e) (by omega) (fun e he => Nat.le_trans (hpa e he) (by decide))
  have RB := Lib.hid fun W (e : Ext w W) => rof_calls lb B cap' W (HB.out.ext e) (by omega) (fun e he => Nat.le_trans (hpb e he) (by decide))
  obtain ⟨ma, hma⟩ : ∃ ma, ma = (Sp.rof [] la).1 := ⟨_, rfl⟩
  obtain ⟨mb, hmb⟩ : ∃ mb, mb = (Sp.rof [] lb).1 := ⟨_, rfl⟩
  rw [← hma] at PA RA
  rw [← hmb] at PB RB
  obtain ⟨oa, hoa⟩ : ∃ oa, oa = (Sp.ofT none la).1 := ⟨_, rfl⟩
  obtain ⟨ob, hob⟩ : ∃ ob, ob = (Sp.ofT none lb).1 := ⟨_, rfl⟩
  rw [← hoa] at PA TA
  rw [← hob] at PB TB
  obtain ⟨ok, hok⟩ : ∃ ok, ok = (decide ((Sp.ofT none la).2 = 0) && decide ((Sp.ofT none lb).2 = 0)) := ⟨_, rfl⟩
  rw [← hok]
  clear hma hmb hoa hob hok hpa hpb hla hlb
  cases ok with
  | false =>
    go_wp2_with fail
    refine (AW.out w2 B2.out).mono ?_
    rintro e w3 ⟨rfl, hb3⟩
    go_wp2
    go_ret
    exact ⟨rfl, B2.out.trans hb3⟩
  | true =>
  have DD := Lib.hid fun W (e : Ext w2 W) => Differ_calls oa ob ma mb PA.out PB.out (.pointer pa) (.pointer pb) W (TA.out.ext e) (TB.out.ext e) (KK.out.ext (B2.out.trans e)) (max_kept MM.out (B2.out.trans e))
  have EA := Lib.hid fun W (e : Ext w2 W) => entries_calls oa (.pointer pa) W (TA.out.ext e) PA.out.go PA.out.short (KK.out.ext (B2.out.trans e))
  have EB := Lib.hid fun W (e : Ext w2 W) => entries_calls ob (.pointer pb) W (TB.out.ext e) PB.out.go PB.out.short (KK.out.ext (B2.out.trans e))
  rw [PA.out.told] at EA
  rw [PB.out.told] at EB
  have GA := Lib.hid (show ∀ d, Sp.check d = 0 → ∀ W, Ext w2 W → Calls Tryz.prog 29 #[.pointer pa, .string (strOf d)] W fun e w' => ∃ A c, e = .returned (.slice A (Sp.rget ma d).length c) ∧ Vers w' A (Sp.rget ma d) ∧ Ext W w' from fun d hd W e => by
    rw [(Sp.names_node PA.out (.inr hd)).2]
    exact tget_calls oa (.pointer pa) d W (TA.out.ext e) PA.out.go (KK.out.ext (B2.out.trans e)) (max_kept MM.out (B2.out.trans e)))
  have GB := Lib.hid (show ∀ d, Sp.check d = 0 → ∀ W, Ext w2 W → Calls Tryz.prog 29 #[.pointer pb, .string (strOf d)] W fun e w' => ∃ A c, e = .returned (.slice A (Sp.rget mb d).length c) ∧ Vers w' A (Sp.rget mb d) ∧ Ext W w' from fun d hd W e => by
    rw [(Sp.names_node PB.out (.inr hd)).2]
    exact tget_calls ob (.pointer pb) d W (TB.out.ext e) PB.out.go (KK.out.ext (B2.out.trans e)) (max_kept MM.out (B2.out.trans e)))
  have CL := Lib.hid fun A B c c' W (e : Ext w W) hA hB => clash18_calls oa ob ma mb PA.out PB.out A B c c' W hA hB (KK2.out.ext e)
  have DM := Lib.hid (show ∀ p ∈ Sp.differT (oa.getD .nil) (ob.getD .nil), Sp.check p = 0 ∧ ¬ Sp.rget ma p = Sp.rget mb p from fun p hp => by
    obtain ⟨h1, h2⟩ := Sp.differ_dir PA.out PB.out p hp
    refine ⟨h1, ?_⟩
    unfold Sp.leafdiff at h2
    rw [(Sp.names_node PA.out (.inr h1)).2, (Sp.names_node PB.out (.inr h1)).2]
    simpa using h2)
  have DR := Lib.hid (Sp.differ_rise PA.out PB.out)
  have CN := Lib.hid (show ¬ (Sp.differT (oa.getD .nil) (ob.getD .nil)).length = (Sp.wantA ma mb).length + Sp.moreB ma mb → Sp.clashS (Sp.textsT (oa.getD .nil) ++ Sp.textsT (ob.getD .nil)) = true from fun h => by
    refine Decidable.byContradiction fun hno => h (Sp.all_count PA.out PB.out (Sp.clash_no ?_))
    simpa using hno)
  have DL : (Sp.differT (oa.getD .nil) (ob.getD .nil)).length ≤ 1121154893057 := by
    have OL := Sp.openS_len oa ob (ma ++ mb) (by have := PA.out.gm.2; have := PB.out.gm.2; rw [List.length_append]; omega) 5 []
    have p5' : (257 : Nat) ^ 5 = 1121154893057 := by decide
    rw [p5', Sp.opened_both PA.out PB.out] at OL
    exact Nat.le_trans (List.length_filter_le _ _) OL
  have la' := PA.out.gm.2
  have lb' := PB.out.gm.2
  have PAm := Lib.hid PA.out.gm.1
  have PBm := Lib.hid PB.out.gm.1
  have LFA := Lib.hid (show ∀ e ∈ ma, e.2.length ≤ 140737488351232 from fun e he => Nat.le_trans (PA.out.leaf e he) (by decide))
  have LGA := Lib.hid (show ∀ d, (Sp.rget ma d).length ≤ 140737488351232 from fun d => by
    rcases Sp.rget_mem ma d with h | ⟨e, he, h⟩
    · rw [h]; exact Nat.zero_le _
    · rw [h]; exact LFA.out e he)
  have WT := Lib.hid fun k h => Sp.wantA_take ma mb k h
  have MT := Lib.hid fun k h => Sp.moreB_take ma mb k h
  have WN : (Sp.wantA ma mb).length ≤ 128 := by unfold Sp.wantA; rw [List.length_map]; exact Nat.le_trans (List.length_filter_le _ _) la'
  have MN : Sp.moreB ma mb ≤ 128 := by unfold Sp.moreB; exact Nat.le_trans (List.length_filter_le _ _) lb'
  have WK := Lib.hid (show ∀ k, k ≤ ma.length → (Sp.wantA (ma.take k) mb).length ≤ 128 from fun k h => by unfold Sp.wantA; rw [List.length_map]; exact Nat.le_trans (List.length_filter_le _ _) (by rw [List.length_take]; omega))
  have MK := Lib.hid (show ∀ k, k ≤ mb.length → Sp.moreB ma (mb.take k) ≤ 128 from fun k h => by unfold Sp.moreB; exact Nat.le_trans (List.length_filter_le _ _) (by rw [List.length_take]; omega))
  obtain ⟨D, hD⟩ : ∃ D, D = Sp.differT (oa.getD .nil) (ob.getD .nil) := ⟨_, rfl⟩
  rw [← hD] at DD DM DR CN DL
  obtain ⟨cs, hcs⟩ : ∃ cs, cs = Sp.clashS (Sp.textsT (oa.getD .nil) ++ Sp.textsT (ob.getD .nil)) := ⟨_, rfl⟩
  rw [← hcs] at CN CL
  clear PA PB RA RB hD hcs
  go_wp2_with fail
  refine (EA.out w2 (Ext.refl _)).mono ?_
  rintro e w3 ⟨A3, c3, rfl, hE3, hb3⟩
  have E3 := Lib.hid hE3
  have B3 := Lib.hid hb3
  clear hE3 hb3 EA
  go_wp2_with fail
  refine (EB.out w3 B3.out).mono ?_
  rintro e w4 ⟨A4, c4, rfl, hE4, hb4⟩
  have E4 := Lib.hid hE4
  have E34 := Lib.hid (E3.out.ext hb4)
  have B4 := Lib.hid (B3.out.trans hb4)
  clear hE4 hb4 EB E3
  go_wp2_with fail
  refine (DD.out w4 B4.out).mono ?_
  rintro e w5 ⟨v5, rfl, hO5, hb5⟩
  obtain ⟨A5, c5, rfl, hc5⟩ := own_read hO5
  have N5 := Lib.hid (show Nams w5 A5 D from hc5)
  have X5 := Lib.hid (E34.out.ext hb5)
  have Y5 := Lib.hid (E4.out.ext hb5)
  have B5 := Lib.hid (B4.out.trans hb5)
  clear hO5 hc5 hb5 DD E34 E4
  go_wp2
  go_loopw [11, 12] (fun v11 v12 wr => ∃ k : Nat, k ≤ ma.length ∧ v12 = .int .i64 k ∧ wr.ownsRow w5.heap.size 9 1 v11 (Sp.wantA (ma.take k) mb).length (strsC (Sp.wantA (ma.take k) mb)) ∧ Ext w5 wr) (fun _ v12 _ => ma.length - (intOf v12).toNat)
  case atStart => exact ⟨0, Nat.zero_le _, rfl, World.ownsRow_nil _ _ _ _, Ext.refl _⟩
  case round =>
    obtain ⟨k, hk, rfl, hO, hb⟩ := hrel
    by_cases hlt : k < ma.length
    · obtain ⟨eb, eo, rfl, he⟩ := X5.out.at (by omega)
      obtain ⟨Av, cv, c0, c1x, c2x⟩ := he k hlt
      have HX := Lib.hid hb
      have HO := Lib.hid hO
      have C0 := Lib.hid c0
      have C1 := Lib.hid c1x
      have ST := Lib.hid (WT.out k hlt)
      have nl := WK.out k (by omega)
      have XP := PAm.out _ (List.getElem_mem hlt)
      have XL := Lib.hid (LFA.out _ (List.getElem_mem hlt))
      have V0 := Lib.hid c2x
      obtain ⟨x, hx⟩ : ∃ x, x = ma[k] := ⟨_, rfl⟩
      rw [← hx] at C0 C1 ST XP XL V0
      have GX := Lib.hid fun W e => GB.out x.1 XP W e
      obtain ⟨out, hout⟩ : ∃ out, out = Sp.wantA (ma.take k) mb := ⟨_, rfl⟩
      rw [← hout] at HO ST nl
      obtain ⟨gx, hgx⟩ : ∃ gx, gx = Sp.rget mb x.1 := ⟨_, rfl⟩
      rw [← hgx] at GX ST
      have kb : (k : Int) < (ma.length : Int) := by omega
      clear hO hb he c0 c1x c2x hx hout hgx
      go_wp2_with fail
      refine wp_region_planT (fun W => Ext wr W) 13 [(true, 0), (true, 1), (true, 2), (true, 3), (true, 4), (true, 5), (true, 6), (true, 7), (true, 8), (true, 9), (true, 10), (false, 11), (false, 12)] (by kernel_rfl) (by kernel_rfl) (Ext.refl wr).drew ?_
      repeat (refine plan_float rfl (fun K hK => ?_)
              first
              | (apply Exists.intro
                 refine ⟨Or.inl ⟨rfl, fun W hS => ?_⟩, ?_⟩
                 · have hz : Ext wr W := hS; have f0 := (HX.out.trans hz).cell C0.out; have f1 := (HX.out.trans hz).cell C1.out
                   go_simp
                   first | done | exact rfl
                 go_simp
                 refine hK _ ?_
                 clear hK K)
              | (refine floatT_no' rfl ?_; go_simp; refine hK _ ?_; clear hK K))
      refine plan_only rfl (fun Q' hQ' => ?_)
      go_wp2_with fail
      refine (GX.out wr.drew ((B5.out.trans HX.out).trans (Ext.refl wr).drew)).mono ?_
      rintro e w6 ⟨Ab, cb, rfl, hvb, hb6⟩
      have VB := Lib.hid hvb
      have E6 := Lib.hid (show Ext wr w6 from ((Ext.refl wr).drew).trans hb6)
      clear hvb hb6
      go_wp2
      refine hQ' _ _ E6.out ?_
      clear hQ'
      refine plan_only rfl (fun Q' hQ' => ?_)
      go_wp2_with fail
      refine (rsame_calls x.2 gx Av Ab cv cb _ (V0.out.ext (HX.out.trans E6.out)) VB.out XL.out).mono ?_
      rintro e w7 ⟨rfl, hb7⟩
      have E7 := Lib.hid (show Ext wr w7 from E6.out.trans hb7)
      obtain ⟨p, hp⟩ : ∃ p, p = decide (x.2 = gx) := ⟨_, rfl⟩
      rw [← hp]
      have HPP := Lib.hid hp
      clear hb7 hp
      go_wp2
      refine hQ' _ _ E7.out ?_
      clear hQ'
      refine plan_nil ?_
      go_wp2_with fail
      refine ⟨rfl, ?_⟩
      have EW := Lib.hid (HX.out.trans E7.out)
      have OW := Lib.hid (own_ext HO.out E7.out)
      have f0 := EW.out.cell C0.out
      cases p with
      | true =>
        have ST2 := Lib.hid (show Sp.wantA (ma.take (k + 1)) mb = out by rw [ST.out, if_pos (of_decide_eq_true HPP.out.symm), List.append_nil])
        go_wp2
        go_roundw
        case rel => exact ⟨k + 1, by omega, by go_num, by rw [ST2.out]; exact OW.out, EW.out⟩
        case measure => simp [intOf]; omega
      | false =>
        have ST2 := Lib.hid (show Sp.wantA (ma.take (k + 1)) mb = out ++ [x.1] by rw [ST.out, if_neg (of_decide_eq_false HPP.out.symm)])
        have tokA : True := trivial
        go_wp2_with (have _t := tokA; at_builtin; refine app_new appStr rfl _ _ rfl w5.heap.size _ out.length _ rfl OW.out #[.string (strOf x.1)] 9 1 rfl rfl (by intro u hu; simp at hu; subst hu; rfl) (by decide) (by omega) EW.out.size ?_; intro g9 cap9 w9 hown9 hgr9 hb9 hbg9; have O9 := Lib.hid hown9; have B9 := Lib.hid (Below.trans EW.out hb9); clear tokA _t hown9 hgr9 hb9 hbg9)
        go_roundw
        case rel =>
          refine ⟨k + 1, by omega, by go_num, ?_, B9.out⟩
          rw [ST2.out, List.length_append, strsC, List.map_append]
          exact O9.out
        case measure => simp [intOf]; omega
    · obtain rfl : k = ma.length := by omega
      rw [List.take_length] at hO
      obtain ⟨A6, c6, rfl, _⟩ := own_read hO
      have BR := Lib.hid hb
      have nl2 := WN
      obtain ⟨wl, hwl⟩ : ∃ wl, wl = (Sp.wantA ma mb).length := ⟨_, rfl⟩
      rw [← hwl] at CN nl2 ⊢
      clear hO hb WN hwl
      go_wp2
      go_loopw [13, 14] (fun v13 v14 wq => ∃ k : Nat, k ≤ mb.length ∧ v14 = .int .i64 k ∧ v13 = .int .i64 (Sp.moreB ma (mb.take k) : Nat) ∧ Ext wr wq) (fun _ v14 _ => mb.length - (intOf v14).toNat)
      case atStart => exact ⟨0, Nat.zero_le _, rfl, rfl, Ext.refl _⟩
      case round =>
        obtain ⟨k, hk, rfl, rfl, hb⟩ := hrel
        have HX := Lib.hid hb
        clear hb
        by_cases hlt : k < mb.length
        · obtain ⟨eb, eo, rfl, he⟩ := Y5.out.at (by omega)
          obtain ⟨Av, cv, c0, _, _⟩ := he k hlt
          have C0 := Lib.hid c0
          have ST := Lib.hid (MT.out k hlt)
          have nl := MK.out k (by omega)
          have XP := PBm.out _ (List.getElem_mem hlt)
          obtain ⟨x, hx⟩ : ∃ x, x = mb[k] := ⟨_, rfl⟩
          rw [← hx] at C0 ST XP
          have GX := Lib.hid fun W e => GA.out x.1 XP W e
          obtain ⟨gx, hgx⟩ : ∃ gx, gx = Sp.rget ma x.1 := ⟨_, rfl⟩
          rw [← hgx] at GX ST
          obtain ⟨n, hn⟩ : ∃ n, n = Sp.moreB ma (mb.take k) := ⟨_, rfl⟩
          rw [← hn] at ST nl ⊢
          have kb : (k : Int) < (mb.length : Int) := by omega
          have f0 := (BR.out.trans HX.out).cell C0.out
          clear he c0 hx hgx hn
          go_wp2_with fail
          refine (GX.out _ (B5.out.trans (BR.out.trans HX.out))).mono ?_
          rintro e w6 ⟨Ab, cb, rfl, _, hb6⟩
          have EW := Lib.hid (HX.out.trans hb6)
          clear hb6 f0 GX
          by_cases hg0 : gx = []
          · subst hg0
            have ST2 := Lib.hid (show Sp.moreB ma (mb.take (k + 1)) = n + 1 by rw [ST.out, if_pos rfl])
            rw [List.length_nil]
            clear ST
            go_wp2
            go_roundw
            case rel => exact ⟨k + 1, by omega, by go_num, by rw [ST2.out]; go_num, EW.out⟩
            case measure => simp [intOf]; omega
          · have ST2 := Lib.hid (show Sp.moreB ma (mb.take (k + 1)) = n by rw [ST.out, if_neg hg0]; rfl)
            have gl : 0 < gx.length := List.length_pos_iff.2 hg0
            have q0 : ((gx.length : Int) == 0) = false := by rw [beq_eq_false_iff_ne]; omega
            clear ST hg0
            go_wp2
            go_roundw
            case rel => exact ⟨k + 1, by omega, by go_num, by rw [ST2.out], EW.out⟩
            case measure => simp [intOf]; omega
        · obtain rfl : k = mb.length := by omega
          rw [List.take_length]
          have BQ := Lib.hid (BR.out.trans HX.out)
          obtain ⟨n, hn⟩ : ∃ n, n = Sp.moreB ma mb := ⟨_, rfl⟩
          rw [← hn] at CN MN ⊢
          obtain ⟨gd, hgd⟩ : ∃ gd, gd = ((D.length : Int) == (wl : Int) + (n : Int)) := ⟨_, rfl⟩
          have qd := hgd.symm
          have GD := Lib.hid (show gd = false → cs = true from fun h => CN.out fun h2 => by
            rw [h] at hgd
            have h3 : ((D.length : Int) == (wl : Int) + (n : Int)) = true := by rw [beq_iff_eq, h2]; omega
            rw [h3] at hgd
            cases hgd)
          clear hn hgd CN HX BR
          go_wp2
          clear qd
          go_loopw [16] (fun v16 wz => ∃ k : Nat, k ≤ D.length ∧ v16 = .int .i64 k ∧ Ext w5 wz) (fun v16 _ => D.length - (intOf v16).toNat)
          case atStart => exact ⟨0, Nat.zero_le _, rfl, BQ.out⟩
          case round =>
            obtain ⟨k, hk, rfl, hb⟩ := hrel
            have HX := Lib.hid hb
            clear hb
            by_cases hlt : k < D.length
            · obtain ⟨g', o', rfl, hat⟩ := N5.out.at (by omega)
              have D0 := Lib.hid (hat k hlt)
              obtain ⟨XP, XN⟩ := DM.out D[k] (List.getElem_mem hlt)
              have XL := (Sp.check_parts XP).2.1
              have LX := Lib.hid (LGA.out D[k])
              have PV := Lib.hid (show ∀ j (h : j + 1 = k), Sp.compare (D[j]'(by omega)) D[k] = -1 ∧ (D[j]'(by omega)).length ≤ 51 from fun j h => by
                refine ⟨?_, (Sp.check_parts (DM.out _ (List.getElem_mem _)).1).2.1⟩
                exact List.pairwise_iff_getElem.1 DR.out j k (by omega) hlt (by omega))
              have J0 := Lib.hid (show ∀ j (h : j + 1 = k), w5.cell? ⟨g', o' + j, none⟩ = some (.string (strOf (D[j]'(by omega)))) from fun j h => hat j (by omega))
              obtain ⟨x, hx⟩ : ∃ x, x = D[k] := ⟨_, rfl⟩
              rw [← hx] at D0 XP XN XL PV LX
              have GXA := Lib.hid fun W e => GA.out x XP W e
              have GXB := Lib.hid fun W e => GB.out x XP W e
              obtain ⟨gx, hgx⟩ : ∃ gx, gx = Sp.rget ma x := ⟨_, rfl⟩
              obtain ⟨gy, hgy⟩ : ∃ gy, gy = Sp.rget mb x := ⟨_, rfl⟩
              rw [← hgx] at GXA XN LX
              rw [← hgy] at GXB XN
              have DF := Lib.hid (show decide (gx = gy) = false from decide_eq_false XN)
              have kb : (k : Int) < (D.length : Int) := by omega
              clear hat hx hgx hgy XN
              go_wp2_with fail
              by_cases hk0 : 0 < k
              · obtain ⟨j, hj⟩ : ∃ j, j + 1 = k := ⟨k - 1, by omega⟩
                obtain ⟨pv, pl⟩ := PV.out j hj
                have j0 := J0.out j hj
                obtain ⟨y, hy⟩ : ∃ y, y = D[j]'(by omega) := ⟨_, rfl⟩
                rw [← hy] at pv pl j0
                have JC := Lib.hid j0
                have q1 : IntKind.i64.wrap ((k : Int) - 1) = (j : Int) := by rw [IntWalk.i64_in _ (by omega)]; omega
                have q2 : (0 : Int) < (k : Int) := by omega
                have q3 : (j : Int) < (D.length : Int) := by omega
                have CC := Lib.hid fun W => rcompare_calls (strOf y) (strOf x) W (by rw [strOf_size]; omega) (by rw [strOf_size]; omega)
                simp only [strOf_data] at CC
                rw [pv] at CC
                have HJ := Lib.hid hj
                clear pv hy j0 hj J0 PV
                refine wp_region_planT (fun W => Ext wr W) 27 [(true, 0), (true, 1), (true, 2), (true, 3), (true, 4), (true, 6), (true, 7), (true, 8), (true, 9), (true, 10), (false, 5), (false, 11), (false, 12), (false, 13), (false, 14), (false, 15), (false, 16), (true, 17), (true, 18), (true, 19), (true, 20), (true, 21), (true, 22), (true, 23), (true, 24), (true, 25), (false, 26)] (by kernel_rfl) (by kernel_rfl) (Ext.refl wr).drew ?_
                repeat (refine plan_float rfl (fun K hK => ?_)
                        first
                        | (apply Exists.intro
                           refine ⟨Or.inl ⟨rfl, fun W hS => ?_⟩, ?_⟩
                           · have hz : Ext wr W := hS; have f0 := (HX.out.trans hz).cell D0.out; have f1 := (HX.out.trans hz).cell JC.out
                             go_simp
                             first | done | exact rfl
                           go_simp
                           refine hK _ ?_
                           clear hK K)
                        | (refine floatT_no' rfl ?_; go_simp; refine hK _ ?_; clear hK K))
                refine plan_only rfl (fun Q' hQ' => ?_)
                go_wp2_with fail
                refine (GXA.out _ ((B5.out.trans HX.out).trans (Ext.refl wr).drew)).mono ?_
                rintro e w6 ⟨Aa, ca, rfl, hva, hb6⟩
                have VA := Lib.hid hva
                have E6 := Lib.hid (show Ext wr w6 from ((Ext.refl wr).drew).trans hb6)
                clear hva hb6
                go_wp2
                refine hQ' _ _ E6.out ?_
                clear hQ'
                refine plan_only rfl (fun Q' hQ' => ?_)
                go_wp2_with fail
                refine (GXB.out w6 ((B5.out.trans HX.out).trans E6.out)).mono ?_
                rintro e w7 ⟨Ab, cb, rfl, hvb, hb7⟩
                have VB := Lib.hid hvb
                have VA7 := Lib.hid (VA.out.ext hb7)
                have E7 := Lib.hid (show Ext wr w7 from E6.out.trans hb7)
                clear hvb hb7 VA
                go_wp2
                refine hQ' _ _ E7.out ?_
                clear hQ'
                refine plan_only rfl (fun Q' hQ' => ?_)
                go_wp2_with fail
                refine (rsame_calls gx gy Aa Ab ca cb _ VA7.out VB.out LX.out).mono ?_
                rintro e w8 ⟨rfl, hb8⟩
                rw [DF.out]
                have E8 := Lib.hid (show Ext wr w8 from E7.out.trans hb8)
                clear hb8
                go_wp2
                refine hQ' _ _ E8.out ?_
                clear hQ'
                refine plan_only rfl (fun Q' hQ' => ?_)
                go_wp2
                refine hQ' _ _ E8.out ?_
                clear hQ'
                refine plan_only rfl (fun Q' hQ' => ?_)
                go_wp2
                refine hQ' _ _ E8.out ?_
                clear hQ'
                refine plan_only rfl (fun Q' hQ' => ?_)
                go_wp2
                refine hQ' _ _ E8.out ?_
                clear hQ'
                refine plan_only rfl (fun Q' hQ' => ?_)
                go_wp2
                refine hQ' _ _ E8.out ?_
                clear hQ'
                repeat (refine plan_float rfl (fun K hK => ?_)
                        first
                        | (apply Exists.intro
                           refine ⟨Or.inl ⟨rfl, fun W hS => ?_⟩, ?_⟩
                           · have hz : Ext wr W := hS; have f0 := (HX.out.trans hz).cell D0.out; have f1 := (HX.out.trans hz).cell JC.out
                             go_simp
                             first | done | exact rfl
                           go_simp
                           refine hK _ ?_
                           clear hK K)
                        | (refine floatT_no' rfl ?_; go_simp; refine hK _ ?_; clear hK K))
                refine plan_only rfl (fun Q' hQ' => ?_)
                go_wp2_with fail
                refine (CC.out _).mono ?_
                rintro e w9 ⟨rfl, hb9⟩
                have E9 := Lib.hid (show Ext wr w9 from E8.out.trans hb9)
                clear hb9
                go_wp2
                refine hQ' _ _ E9.out ?_
                clear hQ'
                refine plan_nil ?_
                go_wp2_with fail
                refine ⟨rfl, ?_⟩
                go_wp2
                go_roundw
                case rel => exact ⟨k + 1, by omega, by go_num, HX.out.trans E9.out⟩
                case measure => simp [intOf]; omega
              · obtain rfl : k = 0 := by omega
                have q2 : ¬ (0 : Int) < ((0 : Nat) : Int) := by decide
                have D0 := Lib.hid (show w5.cell? ⟨g', o', none⟩ = some (.string (strOf x)) by have := D0.out; rwa [Nat.add_zero] at this)
                clear PV J0
                refine wp_region_planT (fun W => Ext wr W) 27 [(true, 0), (true, 1), (true, 2), (true, 3), (true, 4), (true, 6), (true, 7), (true, 8), (true, 9), (true, 10), (false, 5), (false, 11), (false, 12), (false, 13), (false, 14), (false, 15), (false, 16), (true, 17), (true, 18), (true, 19), (true, 20), (true, 21), (true, 22), (true, 23), (true, 24), (true, 25), (false, 26)] (by kernel_rfl) (by kernel_rfl) (Ext.refl wr).drew ?_
                repeat (refine plan_float rfl (fun K hK => ?_)
                        first
                        | (apply Exists.intro
                           refine ⟨Or.inl ⟨rfl, fun W hS => ?_⟩, ?_⟩
                           · have hz : Ext wr W := hS; have f0 := (HX.out.trans hz).cell D0.out
                             go_simp
                             first | done | exact rfl
                           go_simp
                           refine hK _ ?_
                           clear hK K)
                        | (refine floatT_no' rfl ?_; go_simp; refine hK _ ?_; clear hK K))
                refine plan_only rfl (fun Q' hQ' => ?_)
                go_wp2_with fail
                refine (GXA.out _ ((B5.out.trans HX.out).trans (Ext.refl wr).drew)).mono ?_
                rintro e w6 ⟨Aa, ca, rfl, hva, hb6⟩
                have VA := Lib.hid hva
                have E6 := Lib.hid (show Ext wr w6 from ((Ext.refl wr).drew).trans hb6)
                clear hva hb6
                go_wp2
                refine hQ' _ _ E6.out ?_
                clear hQ'
                refine plan_only rfl (fun Q' hQ' => ?_)
                go_wp2_with fail
                refine (GXB.out w6 ((B5.out.trans HX.out).trans E6.out)).mono ?_
                rintro e w7 ⟨Ab, cb, rfl, hvb, hb7⟩
                have VB := Lib.hid hvb
                have VA7 := Lib.hid (VA.out.ext hb7)
                have E7 := Lib.hid (show Ext wr w7 from E6.out.trans hb7)
                clear hvb hb7 VA
                go_wp2
                refine hQ' _ _ E7.out ?_
                clear hQ'
                refine plan_only rfl (fun Q' hQ' => ?_)
                go_wp2_with fail
                refine (rsame_calls gx gy Aa Ab ca cb _ VA7.out VB.out LX.out).mono ?_
                rintro e w8 ⟨rfl, hb8⟩
                rw [DF.out]
                have E8 := Lib.hid (show Ext wr w8 from E7.out.trans hb8)
                clear hb8
                go_wp2
                refine hQ' _ _ E8.out ?_
                clear hQ'
                refine plan_only rfl (fun Q' hQ' => ?_)
                go_wp2
                refine hQ' _ _ E8.out ?_
                clear hQ'
                refine plan_only rfl (fun Q' hQ' => ?_)
                go_wp2
                refine hQ' _ _ E8.out ?_
                clear hQ'
                refine plan_only rfl (fun Q' hQ' => ?_)
                go_wp2
                refine hQ' _ _ E8.out ?_
                clear hQ'
                refine plan_only rfl (fun Q' hQ' => ?_)
                go_wp2
                refine hQ' _ _ E8.out ?_
                clear hQ'
                repeat (refine plan_float rfl (fun K hK => ?_); refine floatT_no' rfl ?_; go_simp; refine hK _ ?_; clear hK K)
                refine plan_only rfl (fun Q' hQ' => ?_)
                go_wp2
                refine hQ' _ _ E8.out ?_
                clear hQ'
                refine plan_nil ?_
                go_wp2_with fail
                refine ⟨rfl, ?_⟩
                go_wp2
                go_roundw
                case rel => exact ⟨0 + 1, by omega, by go_num, HX.out.trans E8.out⟩
                case measure => simp [intOf]; omega
            · obtain rfl : k = D.length := by omega
              have W1 := Lib.hid (B2.out.trans (B5.out.trans HX.out))
              cases gd with
              | true =>
                go_wp2_with fail
                refine (AW.out _ W1.out).mono ?_
                rintro e wa ⟨rfl, hba⟩
                go_wp2
                go_ret
                exact ⟨rfl, W1.out.trans hba⟩
              | false =>
                have cst := GD.out rfl
                go_wp2_with fail
                refine (CL.out A3 A4 c3 c4 _ W1.out (X5.out.ext HX.out) (Y5.out.ext HX.out)).mono ?_
                rintro e wa ⟨b, rfl, hc, hba⟩
                obtain rfl := hc cst
                have W2 := Lib.hid (W1.out.trans hba)
                clear hba hc cst
                go_wp2_with fail
                refine (AW.out wa W2.out).mono ?_
                rintro e wb ⟨rfl, hbb⟩
                go_wp2
                go_ret
                exact ⟨rfl, W2.out.trans hbb⟩
end Go.Proofs.YtmlfnidckfeebaaGreatDoor
