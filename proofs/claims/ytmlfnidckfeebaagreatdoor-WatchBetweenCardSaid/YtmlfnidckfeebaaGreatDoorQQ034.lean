/- Watching: changes turned round; changes that are the same. Walks: WatchBetween. -/
import Derived.Test.YtmlfnidckfeebaaGreatDoorQQ033
namespace Go.Proofs.YtmlfnidckfeebaaGreatDoor
open Go.RowKit Go.Shelf
attribute [local go_sem] yUpon strOf_toList
set_option maxRecDepth 100000 in
set_option maxHeartbeats 4000000 in
theorem wsame_calls (l : List Sp.Chg) (A B : Option Addr) (cap cap' : Nat) (w : World) (h : Cells w A (chgsC l)) (h' : Cells w B (chgsC l)) (hl : l.length ≤ 1121154893057) :
    Calls Tryz.prog 52 #[.slice A l.length cap, .slice B l.length cap'] w fun e w' => e = .returned (.bool true) ∧ Ext w w' := by
  have HH := Lib.hid h
  have HH' := Lib.hid h'
  have b0 : ((l.length : Int) != (l.length : Int)) = false := by simp
  clear h h'
  go_enter Tryz.func52, Tryz.ntmps52
  go_wp2
  go_loopw [5] (fun v5 wr => ∃ k : Nat, k ≤ l.length ∧ v5 = .int .i64 k ∧ Ext w wr) (fun v5 _ => l.length - (intOf v5).toNat)
  case atStart => exact ⟨0, Nat.zero_le _, rfl, Ext.refl _⟩
  case round =>
    obtain ⟨k, hk, rfl, hb⟩ := hrel
    have HB := Lib.hid hb
    by_cases hlt : k < l.length
    · obtain ⟨g, o, rfl, hc⟩ := chg_at (HH.out.ext hb) (by omega)
      obtain ⟨g', o', rfl, hc'⟩ := chg_at (HH'.out.ext hb) (by omega)
      obtain ⟨c0, c1, c2, c3⟩ := hc k hlt
      obtain ⟨d0, d1, d2, d3⟩ := hc' k hlt
      obtain ⟨x, hx⟩ : ∃ x, x = l[k] := ⟨_, rfl⟩
      rw [← hx] at c0 c1 c2 c3 d0 d1 d2 d3
      have C0 := Lib.hid c0
      have C1 := Lib.hid c1
      have C2 := Lib.hid c2
      have C3 := Lib.hid c3
      have D0 := Lib.hid d0
      have D1 := Lib.hid d1
      have D2 := Lib.hid d2
      have D3 := Lib.hid d3
      have b2 : (k : Int) < (l.length : Int) := by omega
      clear hb hc hc' c0 c1 c2 c3 d0 d1 d2 d3 hx
      go_wp2_with fail
      refine wp_region_det (fun W => Ext wr W) (by kernel_rfl) (by kernel_rfl) (Below.refl _ _).drew ?_
      repeat (first
        | (refine det_step (fun K hK => ?_)
           apply Exists.intro
           refine ⟨Or.inl ⟨rfl, fun W hS => ?_⟩, ?_⟩
           · replace hS : Ext wr W := hS
             have f0 := hS.cell C0.out; have f1 := hS.cell C1.out; have f2 := hS.cell C2.out; have f3 := hS.cell C3.out; have z0 := hS.cell D0.out; have z1 := hS.cell D1.out; have z2 := hS.cell D2.out; have z3 := hS.cell D3.out
             go_simp
             first
             | exact rfl
             | exact ⟨rfl, hS⟩
             | (fail)
           go_simp
           refine hK _ ?_
           clear hK K)
        | (refine det_step (fun K hK => ?_); refine det_no' rfl ?_; go_simp; refine hK _ ?_; clear hK K))
      refine det_nil ?_
      intro W9 hS
      replace hS : Ext _ W9 := hS
      have EW := Lib.hid (HB.out.trans hS)
      clear hS
      go_wp2
      go_roundw
      case rel => exact ⟨k + 1, by omega, by go_num, EW.out⟩
      case measure => simp [intOf]; omega
    · obtain rfl : k = l.length := by omega
      clear hb
      go_wp2
      go_ret
      exact ⟨rfl, HB.out⟩
set_option maxRecDepth 100000 in
set_option maxHeartbeats 8000000 in
theorem wback_calls (l : List Sp.Chg) (A : Option Addr) (cap : Nat) (w : World) (h : Cells w A (chgsC l)) (hl : l.length ≤ 1121154893057) :
    Calls Tryz.prog 54 #[.slice A l.length cap] w fun e w' => ∃ v, e = .returned v ∧ w'.ownsRow w.heap.size 88 4 v l.length (chgsC (l.map Sp.backC)) ∧ Ext w w' := by
  have HH := Lib.hid h
  clear h
  go_enter Tryz.func54, Tryz.ntmps54
  go_wp2
  go_loopw [3, 8] (fun v3 v8 wr => ∃ k : Nat, k ≤ l.length ∧ v8 = .int .i64 k ∧ wr.ownsRow w.heap.size 88 4 v3 k (chgsC ((l.take k).map Sp.backC)) ∧ Ext w wr) (fun _ v8 _ => l.length - (intOf v8).toNat)
  case atStart => exact ⟨0, Nat.zero_le _, rfl, World.ownsRow_nil _ _ _ _, Ext.refl _⟩
  case round =>
    obtain ⟨k, hk, rfl, hO, hb⟩ := hrel
    have HX := Lib.hid hb
    have HO := Lib.hid hO
    clear hO
    by_cases hlt : k < l.length
    · obtain ⟨g, o, rfl, hc⟩ := chg_at (HH.out.ext hb) (by omega)
      obtain ⟨c0, c1, c2, c3⟩ := hc k hlt
      have TT := Lib.hid (show (l.take (k + 1)).map Sp.backC = (l.take k).map Sp.backC ++ [Sp.backC l[k]] by rw [List.take_succ_eq_append_getElem hlt, List.map_append]; rfl)
      obtain ⟨x, hx⟩ : ∃ x, x = l[k] := ⟨_, rfl⟩
      rw [← hx] at c0 c1 c2 c3 TT
      have kb : (k : Int) < (l.length : Int) := by omega
      have tok1 : True := trivial
      clear hc hx hb
      go_upto_region 5 with (have _t := tok1; ((with_reducible refine at_alloc (t := 88) rfl ?_); refine box_new rfl (cs := #[.string ⟨#[]⟩, .int .i64 0, .string ⟨#[]⟩, .string ⟨#[]⟩]) (t := 88) (by first | (go_simp; done) | (go_simp; rfl)) ?_; intro g5 w5 hg5 hx5 hb5; have H5 := Lib.hid hx5; have B5 := Lib.hid (show Ext wr w5 from hb5); have GG5 := Lib.hid hg5; have k0 := hx5.frozen 0; have k1 := hx5.frozen 1; have k2 := hx5.frozen 2; have k3 := hx5.frozen 3; have e0 := (hx5.cell 0).trans rfl; have e1 := (hx5.cell 1).trans rfl; have e2 := (hx5.cell 2).trans rfl; have e3 := (hx5.cell 3).trans rfl; clear tok1 _t hx5 hb5 hg5))
      obtain ⟨w6, hw6⟩ : ∃ w6, w6 = (((w5.setCell ⟨g5, 0, none⟩ (.string (strOf x.path))).setCell ⟨g5, 1, none⟩ (.int .i64 x.kind)).setCell ⟨g5, 2, none⟩ (.string (strOf x.was))).setCell ⟨g5, 3, none⟩ (.string (strOf x.now)) := ⟨_, rfl⟩
      have X6 := Lib.hid (show isBlk w6 g5 88 #[.string (strOf x.path), .int .i64 x.kind, .string (strOf x.was), .string (strOf x.now)] by rw [hw6]; exact (((H5.out.put 0 _ rfl).put 1 _ rfl).put 2 _ rfl).put 3 _ rfl)
      have E6 := Lib.hid (show Ext wr w6 by rw [hw6]; exact (((B5.out.setCell GG5.out _).setCell GG5.out _).setCell GG5.out _).setCell GG5.out _)
      rw [← hw6]
      clear hw6 k0 k1 k2 k3 e0 e1 e2 e3 c0 c1 c2 c3
      have f2 := (X6.out.cell 2).trans rfl
      have f3 := (X6.out.cell 3).trans rfl
      have k2 := X6.out.frozen 2
      have k3 := X6.out.frozen 3
      go_upto_region 6 with fail
      obtain ⟨w7, hw7⟩ : ∃ w7, w7 = (w6.setCell ⟨g5, 2, none⟩ (.string (strOf x.now))).setCell ⟨g5, 3, none⟩ (.string (strOf x.was)) := ⟨_, rfl⟩
      have X7 := Lib.hid (show isBlk w7 g5 88 #[.string (strOf x.path), .int .i64 x.kind, .string (strOf x.now), .string (strOf x.was)] by rw [hw7]; exact (X6.out.put 2 _ rfl).put 3 _ rfl)
      have E7 := Lib.hid (show Ext wr w7 by rw [hw7]; exact (E6.out.setCell GG5.out _).setCell GG5.out _)
      rw [← hw7]
      clear hw7 f2 f3 k2 k3
      have O7 := Lib.hid (own_ext HO.out E7.out)
      have EW := Lib.hid (HX.out.trans E7.out)
      have f1 := (X7.out.cell 1).trans rfl
      have k1 := X7.out.frozen 1
      obtain ⟨kk, hkk⟩ : ∃ kk, kk = (Sp.backC x).kind := ⟨_, rfl⟩
      have BC := Lib.hid (show Sp.backC x = ⟨x.path, kk, x.now, x.was⟩ by rw [hkk]; rfl)
      have KK := Lib.hid (show kk = if x.kind = 1 then 2 else if x.kind = 2 then 1 else x.kind from hkk)
      clear hkk
      go_upto_block 2 with fail
      go_cut [20] (fun _ wx => isBlk wx g5 88 #[.string (strOf x.path), .int .i64 kk, .string (strOf x.now), .string (strOf x.was)] ∧ wx.ownsRow w.heap.size 88 4 u3 k (chgsC ((l.take k).map Sp.backC)) ∧ Ext w wx)
      case first =>
        have NE := Lib.hid (show u3.ownBlock ≠ some g5 from fun e => by have h1 := (HO.out.lt g5 e).2; have h2 := GG5.out; omega)
        have GE := Lib.hid (show w.heap.size ≤ g5 from Nat.le_trans HX.out.size GG5.out)
        by_cases h1 : x.kind = 1
        · have t1 : (x.kind == 1) = true := by rw [h1]; rfl
          have K2 := Lib.hid (show kk = 2 by rw [KK.out, if_pos h1])
          clear KK h1
          go_wp2
          go_meet
          case rel => exact ⟨by rw [K2.out]; exact X7.out.put 1 _ rfl, own_far O7.out NE.out _, EW.out.setCell (p := ⟨g5, 1, none⟩) GE.out _⟩
        · have t1 : (x.kind == 1) = false := by rw [beq_eq_false_iff_ne]; exact h1
          by_cases h2 : x.kind = 2
          · have t2 : (x.kind == 2) = true := by rw [h2]; rfl
            have K2 := Lib.hid (show kk = 1 by rw [KK.out, if_neg h1, if_pos h2])
            clear KK h1 h2
            go_wp2
            go_meet
            case rel => exact ⟨by rw [K2.out]; exact X7.out.put 1 _ rfl, own_far O7.out NE.out _, EW.out.setCell (p := ⟨g5, 1, none⟩) GE.out _⟩
          · have t2 : (x.kind == 2) = false := by rw [beq_eq_false_iff_ne]; exact h2
            have K2 := Lib.hid (show kk = x.kind by rw [KK.out, if_neg h1, if_neg h2])
            clear KK h1 h2
            go_wp2
            go_meet
            case rel => exact ⟨by rw [K2.out]; exact X7.out, O7.out, EW.out⟩
      case rest =>
        obtain ⟨hx9, ho9, he9⟩ := hcut
        obtain ⟨w9, hw9⟩ : ∃ w9, w9 = wc := ⟨_, rfl⟩
        rw [← hw9] at hx9 ho9 he9 ⊢
        have X9 := Lib.hid hx9
        have O9 := Lib.hid ho9
        have E9 := Lib.hid he9
        have f0 := (X9.out.cell 0).trans rfl
        have g1 := (X9.out.cell 1).trans rfl
        have f2 := (X9.out.cell 2).trans rfl
        have f3 := (X9.out.cell 3).trans rfl
        have tokA : True := trivial
        have tokS : True := trivial
        clear hx9 ho9 he9 hw9 f1 k1 KK
        go_wp2_with (first
          | (have _t := tokS; (with_reducible refine at_bslice rfl ?_); refine bslice_one rfl 74 88 _ rfl appChg (by decide) (chgC ⟨x.path, kk, x.now, x.was⟩) rfl rfl ?_; clear tokS _t)
          | (have _t := tokA; at_builtin; refine app_new appChg rfl _ _ rfl w.heap.size _ k _ rfl O9.out (chgC ⟨x.path, kk, x.now, x.was⟩) 88 1 rfl rfl (chg_one ⟨x.path, kk, x.now, x.was⟩) (by decide) (by omega) E9.out.size ?_; intro gz capz wz hownz hgrz hbz hbgz; have OZ := Lib.hid hownz; have BZ := Lib.hid (show Ext w wz from Below.trans E9.out hbz); clear tokA _t hownz hgrz hbz hbgz))
        go_roundw
        case rel =>
          refine ⟨k + 1, by omega, by go_num, ?_, BZ.out⟩
          rw [TT.out, BC.out, chgsC_append, show chgsC [(⟨x.path, kk, x.now, x.was⟩ : Sp.Chg)] = (chgC ⟨x.path, kk, x.now, x.was⟩).toList from List.append_nil _]
          exact OZ.out
        case measure => simp [intOf]; omega
    · obtain rfl : k = l.length := by omega
      rw [List.take_length] at HO
      go_wp2
      go_ret
      exact ⟨_, rfl, HO.out, HX.out⟩
end Go.Proofs.YtmlfnidckfeebaaGreatDoor
namespace Go.Proofs.YtmlfnidckfeebaaGreatDoor
open Go.RowKit Go.Shelf
attribute [local go_sem] yUpon strOf_toList
set_option maxRecDepth 100000 in
set_option maxHeartbeats 8000000 in
theorem watchBetween_calls (la lb : List Sp.DE) (A B : Option Addr) (cap cap' : Nat) (w : World) (hA : EntsAt w A la) (hB : EntsAt w B lb) (K : KeysAt w 2) (K2 : KeysAt w 0) (M : MaxAt w) :
    Calls Tryz.prog 10 #[.slice A la.length cap, .slice B lb.length cap'] w fun e w' => e = .returned (.bool true) ∧ Ext w w' := by
  have KK := Lib.hid K
  have KK2 := Lib.hid K2
  have MM := Lib.hid M
  have HA := Lib.hid hA
  have HB := Lib.hid hB
  have AW := Lib.hid fun W (e : Ext w W) => awake46_calls W (K.ext e) (max_kept M e)
  clear K K2 M hA hB
  go_enter Tryz.func10, Tryz.ntmps10
  go_wp2_with fail
  refine (great18_calls la lb A B cap cap' w HA.out HB.out).mono ?_
  rintro e w1 ⟨b, rfl, hgr, hb1⟩
  have B1 := Lib.hid (show Ext w w1 from hb1)
  have GR := Lib.hid hgr
  clear hb1 hgr
  cases b with
  | true =>
    go_wp2_with fail
    refine (AW.out w1 B1.out).mono ?_
    rintro e w2 ⟨rfl, hb2⟩
    go_wp2
    go_ret
    exact ⟨rfl, B1.out.trans hb2⟩
  | false =>
  obtain ⟨⟨hla, hpa⟩, hlb, hpb⟩ := GR.out (by first | rfl | trivial)
  clear GR
  go_wp2_with fail
  refine (of_calls la A cap w1 (HA.out.ext B1.out) (by omega) (KK.out.ext B1.out) (max_kept MM.out B1.out)).mono ?_
  rintro e w3 ⟨v3, rfl, ht3, hb3⟩
  obtain ⟨pa, rfl⟩ := tree_ptr ht3
  have T3 := Lib.hid ht3
  have B3 := Lib.hid (B1.out.trans hb3)
  clear ht3 hb3
  go_wp2_with fail
  refine (of_calls lb B cap' w3 (HB.out.ext B3.out) (by omega) (KK.out.ext B3.out) (max_kept MM.out B3.out)).mono ?_
  rintro e w2 ⟨v4, rfl, ht4, hb4⟩
  obtain ⟨pb, rfl⟩ := tree_ptr ht4
  have TB := Lib.hid ht4
  have TA := Lib.hid (T3.out.ext hb4)
  have B2 := Lib.hid (B3.out.trans hb4)
  clear ht4 hb4 T3
  have PA := Lib.hid (Sp.both_of la)
  have PB := Lib.hid (Sp.both_of lb)
  obtain ⟨ma, hma⟩ : ∃ ma, ma = (Sp.rof [] la).1 := ⟨_, rfl⟩
  obtain ⟨mb, hmb⟩ : ∃ mb, mb = (Sp.rof [] lb).1 := ⟨_, rfl⟩
  rw [← hma] at PA
  rw [← hmb] at PB
  obtain ⟨oa, hoa⟩ : ∃ oa, oa = (Sp.ofT none la).1 := ⟨_, rfl⟩
  obtain ⟨ob, hob⟩ : ∃ ob, ob = (Sp.ofT none lb).1 := ⟨_, rfl⟩
  rw [← hoa] at PA TA
  rw [← hob] at PB TB
  obtain ⟨ca, hca⟩ : ∃ ca, ca = (Sp.ofT none la).2 := ⟨_, rfl⟩
  obtain ⟨cb, hcb⟩ : ∃ cb, cb = (Sp.ofT none lb).2 := ⟨_, rfl⟩
  rw [← hca, ← hcb]
  clear hma hmb hoa hob hca hcb hpa hpb hla hlb
  by_cases ha0 : ca = 0
  case neg =>
    have q1 : (ca == 0) = false := by rw [beq_eq_false_iff_ne]; exact ha0
    clear ha0
    go_wp2_with fail
    refine (AW.out w2 B2.out).mono ?_
    rintro e w3 ⟨rfl, hb3⟩
    go_wp2
    go_ret
    exact ⟨rfl, B2.out.trans hb3⟩
  by_cases hb0 : cb = 0
  case neg =>
    subst ha0
    have q1 : (cb == 0) = false := by rw [beq_eq_false_iff_ne]; exact hb0
    clear hb0
    go_wp2_with fail
    refine (AW.out w2 B2.out).mono ?_
    rintro e w3 ⟨rfl, hb3⟩
    go_wp2
    go_ret
    exact ⟨rfl, B2.out.trans hb3⟩
  subst ha0 hb0
  have EA := Lib.hid fun W (e : Ext w2 W) => entries_calls oa (.pointer pa) W (TA.out.ext e) PA.out.go PA.out.short (KK.out.ext (B2.out.trans e))
  have EB := Lib.hid fun W (e : Ext w2 W) => entries_calls ob (.pointer pb) W (TB.out.ext e) PB.out.go PB.out.short (KK.out.ext (B2.out.trans e))
  rw [PA.out.told] at EA
  rw [PB.out.told] at EB
  have D1 := Lib.hid fun W (e : Ext w2 W) => wbetween_calls oa ob ma mb PA.out PB.out (.pointer pa) (.pointer pb) W (TA.out.ext e) (TB.out.ext e) (KK.out.ext (B2.out.trans e)) (max_kept MM.out (B2.out.trans e))
  have D2 := Lib.hid fun W (e : Ext w2 W) => wbetween_calls ob oa mb ma PB.out PA.out (.pointer pb) (.pointer pa) W (TB.out.ext e) (TA.out.ext e) (KK.out.ext (B2.out.trans e)) (max_kept MM.out (B2.out.trans e))
  have R1 := Lib.hid fun A B c c' W (e : Ext w W) hA hB => rbetween_calls oa ob ma mb PA.out PB.out A B c c' W hA hB (KK2.out.ext e)
  have BK := Lib.hid (Sp.between_back PA.out PB.out)
  have LL : ∀ oa ob ma mb, Sp.Both oa ma → Sp.Both ob mb → (Sp.betweenS (oa.getD .nil) (ob.getD .nil)).length ≤ 1121154893057 := fun oa ob ma mb PA PB => by
    have OL := Sp.openS_len oa ob (ma ++ mb) (by have := PA.gm.2; have := PB.gm.2; rw [List.length_append]; omega) 5 []
    have p5' : (257 : Nat) ^ 5 = 1121154893057 := by decide
    rw [p5', Sp.opened_both PA PB] at OL
    exact Nat.le_trans (Nat.le_trans (Sp.between_len _ _ _) (List.length_filter_le _ _)) OL
  have L1 := LL oa ob ma mb PA.out PB.out
  have L2 := LL ob oa mb ma PB.out PA.out
  obtain ⟨R, hR⟩ : ∃ R, R = Sp.betweenS (oa.getD .nil) (ob.getD .nil) := ⟨_, rfl⟩
  obtain ⟨Q, hQ⟩ : ∃ Q, Q = Sp.betweenS (ob.getD .nil) (oa.getD .nil) := ⟨_, rfl⟩
  rw [← hR] at D1 R1 BK L1
  rw [← hQ] at D2 BK L2
  have QR := Lib.hid (show Q.length = R.length by rw [← BK.out, List.length_map])
  clear PA PB hR hQ LL
  go_wp2_with fail
  refine (EA.out w2 (Ext.refl _)).mono ?_
  rintro e w3 ⟨A3, c3, rfl, hE3, hb3⟩
  have E3 := Lib.hid hE3
  have B3 := Lib.hid hb3
  clear hE3 hb3 EA
  go_wp2_with fail
  refine (EB.out w3 B3.out).mono ?_
  rintro e w4 ⟨A4, c4, rfl, hE4, hb4⟩
  have Y4 := Lib.hid hE4
  have X4 := Lib.hid (E3.out.ext hb4)
  have B4 := Lib.hid (B3.out.trans hb4)
  clear hE4 hb4 EB E3
  go_wp2_with fail
  refine (D1.out w4 B4.out).mono ?_
  rintro e w5 ⟨v5, rfl, hO5, hb5⟩
  obtain ⟨A5, c5, rfl, hc5⟩ := own_read hO5
  have C5 := Lib.hid hc5
  have B5 := Lib.hid (B4.out.trans hb5)
  have X5 := Lib.hid (X4.out.ext hb5)
  have Y5 := Lib.hid (Y4.out.ext hb5)
  clear hO5 hc5 hb5 D1 X4 Y4
  go_wp2_with fail
  refine (R1.out A3 A4 c3 c4 w5 (B2.out.trans B5.out) X5.out Y5.out).mono ?_
  rintro e w6 ⟨v6, rfl, hO6, hb6⟩
  obtain ⟨A6, c6, rfl, hc6⟩ := own_read hO6
  have C6 := Lib.hid hc6
  have C56 := Lib.hid (C5.out.ext hb6)
  have B6 := Lib.hid (B5.out.trans hb6)
  have X6 := Lib.hid (X5.out.ext hb6)
  have Y6 := Lib.hid (Y5.out.ext hb6)
  clear hO6 hc6 hb6 X5 Y5 C5
  go_wp2_with fail
  refine (wsame_calls R A5 A6 c5 c6 w6 C56.out C6.out L1).mono ?_
  rintro e w7 ⟨rfl, hb7⟩
  have B7 := Lib.hid (B6.out.trans hb7)
  have X7 := Lib.hid (X6.out.ext hb7)
  have Y7 := Lib.hid (Y6.out.ext hb7)
  clear hb7 X6 Y6 C56 C6
  go_wp2_with fail
  refine (D2.out w7 B7.out).mono ?_
  rintro e w8 ⟨v8, rfl, hO8, hb8⟩
  obtain ⟨A8, c8, rfl, hc8⟩ := own_read hO8
  have C8 := Lib.hid hc8
  have B8 := Lib.hid (B7.out.trans hb8)
  have X8 := Lib.hid (X7.out.ext hb8)
  have Y8 := Lib.hid (Y7.out.ext hb8)
  clear hO8 hc8 hb8 D2 X7 Y7
  go_wp2_with fail
  refine (wback_calls Q A8 c8 w8 C8.out L2).mono ?_
  rintro e w9 ⟨v9, rfl, hO9, hb9⟩
  rw [BK.out, QR.out] at hO9
  obtain ⟨A9, c9, rfl, hc9⟩ := own_read hO9
  have C9 := Lib.hid hc9
  have B9 := Lib.hid (B8.out.trans hb9)
  have X9 := Lib.hid (X8.out.ext hb9)
  have Y9 := Lib.hid (Y8.out.ext hb9)
  clear hO9 hc9 hb9 X8 Y8 C8
  go_wp2_with fail
  refine (R1.out A3 A4 c3 c4 w9 (B2.out.trans B9.out) X9.out Y9.out).mono ?_
  rintro e wa ⟨va, rfl, hOa, hba⟩
  obtain ⟨Aa, ka, rfl, hca⟩ := own_read hOa
  have Ca := Lib.hid hca
  have C9a := Lib.hid (C9.out.ext hba)
  have Ba := Lib.hid (B9.out.trans hba)
  clear hOa hca hba C9
  go_wp2_with fail
  refine (wsame_calls R A9 Aa c9 ka wa C9a.out Ca.out L1).mono ?_
  rintro e wb ⟨rfl, hbb⟩
  have Bb := Lib.hid (B2.out.trans (Ba.out.trans hbb))
  clear hbb
  go_wp2_with fail
  refine (AW.out wb Bb.out).mono ?_
  rintro e wd ⟨rfl, hbd⟩
  go_wp2
  go_ret
  exact ⟨rfl, Bb.out.trans hbd⟩
end Go.Proofs.YtmlfnidckfeebaaGreatDoor
