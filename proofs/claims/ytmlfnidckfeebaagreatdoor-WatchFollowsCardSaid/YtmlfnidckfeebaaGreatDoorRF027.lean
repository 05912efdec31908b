/- Watching: a watcher, and what it tells. The document's winner of a leaf. Watching: who notes what a watcher tells: rows of files; the document's read. Quotas: what a leaf uses. Quotas: what a directory uses. Deltas: the example of chapter 18; two lists that are not too much; two trees. -/
import Derived.Test.YtmlfnidckfeebaaGreatDoorRF026
namespace Go.Proofs.YtmlfnidckfeebaaGreatDoor
open Go.RowKit Go.Shelf
attribute [local go_sem] yUpon strOf_toList
namespace Sp
def okD (d : Bs) : Bool := decide (d = []) || decide (check d = 0)
def inD (d p : Bs) : Bool := decide (d = []) || (decide (p = d) || under p d)
end Sp
abbrev watC (d : Sp.Bs) (v : Value) (n : Nat) : Array Value := #[.string (strOf d), v, .int .i64 n]
abbrev watT : TypeId → Prop := fun t => t = 167
set_option maxRecDepth 100000 in
set_option maxHeartbeats 4000000 in
theorem wnew_calls (d : Sp.Bs) (a : Option Addr) (w : World) (M : MaxAt w) :
    Calls Tryz.prog 55 #[.string (strOf d), .pointer a] w fun e w' => ∃ r, e = .returned r ∧ ((Sp.okD d = true ∧ ∃ g, w.heap.size ≤ g ∧ r = .pointer (some ⟨g, 0, none⟩) ∧ isBlk w' g 167 (watC d (.pointer a) 0)) ∨ (Sp.okD d = false ∧ r = .pointer none)) ∧ Ext w w' := by
  have D0 := Lib.hid (show d = [] → Sp.okD d = true from fun h => by unfold Sp.okD; rw [decide_eq_true h]; rfl)
  have D1 := Lib.hid (show Sp.check d = 0 → Sp.okD d = true from fun h => by unfold Sp.okD; rw [decide_eq_true h, Bool.or_true])
  have D2 := Lib.hid (show ¬ d = [] → ¬ Sp.check d = 0 → Sp.okD d = false from fun h1 h2 => by unfold Sp.okD; rw [decide_eq_false h1, decide_eq_false h2]; rfl)
  obtain ⟨ok, hok⟩ : ∃ ok, ok = Sp.okD d := ⟨_, rfl⟩
  rw [← hok] at D0 D1 D2 ⊢
  have CK := Lib.hid (pcheck_calls (strOf d) w M)
  simp only [strOf_data] at CK
  obtain ⟨ck, hck⟩ : ∃ ck, ck = Sp.check d := ⟨_, rfl⟩
  rw [← hck] at CK D1 D2
  clear M hck hok
  have tok1 : True := trivial
  by_cases hd : d = []
  · subst hd
    go_enter Tryz.func55, Tryz.ntmps55
    go_wp2_with (have _t := tok1; ((with_reducible refine at_box (t := 167) rfl ?_); refine box_new rfl (cs := watC [] (.pointer a) 0) (t := 167) (by first | (go_simp; done) | (go_simp; rfl)) ?_; intro g3 w3 hg3 hx3 hb3; have X3 := Lib.hid hx3; have B3 := Lib.hid (show Ext w w3 from hb3); have G3 := Lib.hid hg3; clear tok1 _t hx3 hb3 hg3))
    go_ret
    exact ⟨_, rfl, .inl ⟨D0.out trivial, g3, G3.out, rfl, X3.out⟩, B3.out⟩
  · have q1 : (d == []) = false := by rw [beq_eq_false_iff_ne]; exact hd
    have q2 : d.isEmpty = false := by cases d with | nil => exact absurd rfl hd | cons _ _ => rfl
    go_enter Tryz.func55, Tryz.ntmps55
    go_wp2_with fail
    refine CK.out.mono ?_
    rintro e w1 ⟨rfl, hb1⟩
    have E1 := Lib.hid (show Ext w w1 from hb1)
    clear hb1 CK
    by_cases hc : ck = 0
    · subst hc
      go_wp2_with (have _t := tok1; ((with_reducible refine at_box (t := 167) rfl ?_); refine box_new rfl (cs := watC d (.pointer a) 0) (t := 167) (by first | (go_simp; done) | (go_simp; rfl)) ?_; intro g3 w3 hg3 hx3 hb3; have X3 := Lib.hid hx3; have B3 := Lib.hid (show Ext w1 w3 from hb3); have G3 := Lib.hid hg3; clear tok1 _t hx3 hb3 hg3))
      go_ret
      exact ⟨_, rfl, .inl ⟨D1.out trivial, g3, Nat.le_trans E1.out.size G3.out, rfl, X3.out⟩, E1.out.trans B3.out⟩
    · have q3 : (ck == 0) = false := by rw [beq_eq_false_iff_ne]; exact hc
      go_wp2
      go_ret
      exact ⟨_, rfl, .inr ⟨D2.out hd hc, rfl⟩, E1.out⟩
set_option maxRecDepth 100000 in
set_option maxHeartbeats 8000000 in
theorem wlook_calls (oa ob : Option Sp.T) (ma mb : List Sp.DE) (PA : Sp.Both oa ma) (PB : Sp.Both ob mb) (a b : Value) (g : Nat) (d : Sp.Bs) (hdl : d.length ≤ 1000) (n : Nat) (hn : n ≤ 1000000000000000) (w : World) (hx : isBlk w g 167 (watC d a n)) (ha : TreeAt w a oa) (hb : TreeAt w b ob) (K : KeysAt w 2) (M : MaxAt w) :
    Calls Tryz.prog 56 #[.pointer (some ⟨g, 0, none⟩), b] w fun e w' => ∃ v, e = .returned v ∧ w'.ownsRow w.heap.size 88 4 v ((Sp.betweenS (oa.getD .nil) (ob.getD .nil)).filter fun c => Sp.inD d c.path).length (chgsC ((Sp.betweenS (oa.getD .nil) (ob.getD .nil)).filter fun c => Sp.inD d c.path)) ∧
      isBlk w' g 167 (watC d b (n + ((Sp.betweenS (oa.getD .nil) (ob.getD .nil)).filter fun c => Sp.inD d c.path).length)) ∧ KB watT g w w' := by
  have BC := Lib.hid (wbetween_calls oa ob ma mb PA PB a b w ha hb K M)
  have LL : (Sp.betweenS (oa.getD .nil) (ob.getD .nil)).length ≤ 1121154893057 := by
    have OL := Sp.openS_len oa ob (ma ++ mb) (by have := PA.gm.2; have := PB.gm.2; rw [List.length_append]; omega) 5 []
    have p5' : (257 : Nat) ^ 5 = 1121154893057 := by decide
    rw [p5', Sp.opened_both PA PB] at OL
    exact Nat.le_trans (Nat.le_trans (Sp.between_len _ _ _) (List.length_filter_le _ _)) OL
  have SH := Lib.hid (show ∀ c ∈ Sp.betweenS (oa.getD .nil) (ob.getD .nil), c.path.length ≤ 51 from fun c hc => by
    unfold Sp.betweenS Sp.betweenL at hc
    obtain ⟨p, hp, h2⟩ := List.mem_filterMap.1 hc
    unfold Sp.changeS at h2
    split at h2
    · cases h2
    · cases h2
      exact (Sp.check_parts (Sp.differ_dir PA PB p hp).1).2.1)
  obtain ⟨pa, rfl⟩ := tree_ptr ha
  obtain ⟨pb, rfl⟩ := tree_ptr hb
  obtain ⟨R, hR⟩ : ∃ R, R = Sp.betweenS (oa.getD .nil) (ob.getD .nil) := ⟨_, rfl⟩
  rw [← hR] at BC LL SH ⊢
  have FT := Lib.hid fun k h => Sp.filter_take (fun c => Sp.inD d c.path) R k h
  have X0 := Lib.hid hx
  have MM := Lib.hid M
  have f1 : w.cell? ⟨g, 1, none⟩ = some (.pointer pa) := (hx.cell 1).trans rfl
  obtain ⟨q0, hq0⟩ : ∃ q0, q0 = R.filter fun c => Sp.inD d c.path := ⟨_, rfl⟩
  rw [← hq0]
  have Q0 := Lib.hid hq0
  have ql0 : q0.length ≤ R.length := by rw [hq0]; exact List.length_filter_le _ _
  clear PA PB ha hb K M hR hx hq0
  go_enter Tryz.func56, Tryz.ntmps56
  go_wp2_with fail
  refine BC.out.mono ?_
  rintro e w1 ⟨v1, rfl, hO1, hb1⟩
  obtain ⟨A1, c1, rfl, hc1⟩ := own_read hO1
  have C1 := Lib.hid (show Cells w1 A1 (chgsC R) from hc1)
  have E1 := Lib.hid hb1
  have X1 := Lib.hid (X0.out.below hb1)
  clear hO1 hc1 hb1 BC f1
  go_wp2
  go_loopw [5, 17] (fun v5 v17 wr => ∃ k : Nat, k ≤ R.length ∧ v17 = .int .i64 k ∧ wr.ownsRow w1.heap.size 88 4 v5 ((R.take k).filter fun c => Sp.inD d c.path).length (chgsC ((R.take k).filter fun c => Sp.inD d c.path)) ∧ Ext w1 wr) (fun _ v17 _ => R.length - (intOf v17).toNat)
  case atStart => exact ⟨0, Nat.zero_le _, rfl, World.ownsRow_nil _ _ _ _, Ext.refl _⟩
  case round =>
    obtain ⟨k, hk, rfl, hO, hb⟩ := hrel
    have HX := Lib.hid hb
    have HO := Lib.hid hO
    clear hO
    by_cases hlt : k < R.length
    · obtain ⟨g1, o1, rfl, hc⟩ := chg_at (C1.out.ext hb) (by omega)
      obtain ⟨c0, c1x, c2, c3⟩ := hc k hlt
      have ST := Lib.hid (FT.out k hlt)
      have xs := SH.out _ (List.getElem_mem hlt)
      have ql : ((R.take k).filter fun c => Sp.inD d c.path).length ≤ k := Nat.le_trans (List.length_filter_le _ _) (List.length_take_le _ _)
      obtain ⟨x, hx⟩ : ∃ x, x = R[k] := ⟨_, rfl⟩
      rw [← hx] at c0 c1x c2 c3 ST xs
      obtain ⟨q, hq⟩ : ∃ q, q = (R.take k).filter fun c => Sp.inD d c.path := ⟨_, rfl⟩
      rw [← hq] at HO ST ql
      have kb : (k : Int) < (R.length : Int) := by omega
      have tok1 : True := trivial
      have ID := Lib.hid (show Sp.inD d x.path = (decide (d = []) || (decide (x.path = d) || Sp.under x.path d)) from rfl)
      have UC := Lib.hid (fun W (e : Ext w W) => punder_calls x.path d W (max_kept MM.out e))
      obtain ⟨u, hu⟩ : ∃ u, u = Sp.under x.path d := ⟨_, rfl⟩
      rw [← hu] at UC ID
      clear hc hx hb hq hu
      go_upto_region 7 with (have _t := tok1; ((with_reducible refine at_alloc (t := 88) rfl ?_); refine box_new rfl (cs := #[.string ⟨#[]⟩, .int .i64 0, .string ⟨#[]⟩, .string ⟨#[]⟩]) (t := 88) (by first | (go_simp; done) | (go_simp; rfl)) ?_; intro g5 w5 hg5 hx5 hb5; have H5 := Lib.hid hx5; have B5 := Lib.hid (show Ext wr w5 from hb5); have GG5 := Lib.hid hg5; have k0 := hx5.frozen 0; have k1 := hx5.frozen 1; have k2 := hx5.frozen 2; have k3 := hx5.frozen 3; have e0 := (hx5.cell 0).trans rfl; have e1 := (hx5.cell 1).trans rfl; have e2 := (hx5.cell 2).trans rfl; have e3 := (hx5.cell 3).trans rfl; clear tok1 _t hx5 hb5 hg5))
      obtain ⟨w6, hw6⟩ : ∃ w6, w6 = (((w5.setCell ⟨g5, 0, none⟩ (.string (strOf x.path))).setCell ⟨g5, 1, none⟩ (.int .i64 x.kind)).setCell ⟨g5, 2, none⟩ (.string (strOf x.was))).setCell ⟨g5, 3, none⟩ (.string (strOf x.now)) := ⟨_, rfl⟩
      have X6 := Lib.hid (show isBlk w6 g5 88 #[.string (strOf x.path), .int .i64 x.kind, .string (strOf x.was), .string (strOf x.now)] by rw [hw6]; exact (((H5.out.put 0 _ rfl).put 1 _ rfl).put 2 _ rfl).put 3 _ rfl)
      have E6 := Lib.hid (show Ext wr w6 by rw [hw6]; exact (((B5.out.setCell GG5.out _).setCell GG5.out _).setCell GG5.out _).setCell GG5.out _)
      rw [← hw6]
      clear hw6 k0 k1 k2 k3 e0 e1 e2 e3 c0 c1x c2 c3
      have EW := Lib.hid (HX.out.trans E6.out)
      have O6 := Lib.hid (own_ext HO.out E6.out)
      have XR := Lib.hid (X1.out.below EW.out)
      have FW := Lib.hid (show w6.cell? ⟨g, 0, none⟩ = some (.string (strOf d)) from (XR.out.cell 0).trans rfl)
      have F0 := Lib.hid ((X6.out.cell 0).trans rfl)
      have F1 := Lib.hid ((X6.out.cell 1).trans rfl)
      have F2 := Lib.hid ((X6.out.cell 2).trans rfl)
      have F3 := Lib.hid ((X6.out.cell 3).trans rfl)
      have YES := Lib.hid (show Sp.inD d x.path = true → ((R.take (k + 1)).filter fun c => Sp.inD d c.path) = q ++ [x] from fun h => by rw [ST.out, if_pos h])
      have NOO := Lib.hid (show Sp.inD d x.path = false → ((R.take (k + 1)).filter fun c => Sp.inD d c.path) = q from fun h => by rw [ST.out, if_neg (by rw [h]; exact Bool.false_ne_true), List.append_nil])
      by_cases hd : d = []
      · have IY := Lib.hid (YES.out (by rw [ID.out, decide_eq_true hd]; rfl))
        subst hd
        refine wp_region_det (fun W => Ext w6 W) (by kernel_rfl) (by kernel_rfl) (Below.refl _ _).drew ?_
        repeat (first
          | (refine det_step (fun K hK => ?_)
             apply Exists.intro
             refine ⟨Or.inl ⟨rfl, fun W hS => ?_⟩, ?_⟩
             · replace hS : Ext w6 W := hS
               have z := hS.cell FW.out; have f0 := hS.cell F0.out
               go_simp
               first
               | exact rfl
               | exact ⟨rfl, hS⟩
               | (refine (UC.out W (E1.out.trans (EW.out.trans hS))).mono ?_; rintro e w9 ⟨rfl, hb9⟩; exact ⟨rfl, hS.trans hb9⟩)
             go_simp
             refine hK _ ?_
             clear hK K)
          | (refine det_step (fun K hK => ?_); refine det_no' rfl ?_; go_simp; refine hK _ ?_; clear hK K))
        refine det_nil ?_
        intro W9 hS
        replace hS : Ext _ W9 := hS
        have f0 := hS.cell F0.out
        have f1 := hS.cell F1.out
        have f2 := hS.cell F2.out
        have f3 := hS.cell F3.out
        have EV := Lib.hid (EW.out.trans hS)
        have O7 := Lib.hid (own_ext O6.out hS)
        clear hS
        have tokA : True := trivial
        have tokS : True := trivial
        go_wp2_with (first
          | (have _t := tokS; (with_reducible refine at_bslice rfl ?_); refine bslice_one rfl 74 88 _ rfl appChg (by decide) (chgC x) rfl rfl ?_; clear tokS _t)
          | (have _t := tokA; at_builtin; refine app_new appChg rfl _ _ rfl w1.heap.size _ q.length _ rfl O7.out (chgC x) 88 1 rfl rfl (chg_one x) (by decide) (by omega) EV.out.size ?_; intro g9 cap9 w9 hown9 hgr9 hb9 hbg9; have O9 := Lib.hid hown9; have B9 := Lib.hid (Below.trans EV.out hb9); clear tokA _t hown9 hgr9 hb9 hbg9))
        go_roundw
        case rel =>
          refine ⟨k + 1, by omega, by go_num, ?_, B9.out⟩
          rw [IY.out, List.length_append, chgsC_append, show chgsC [x] = (chgC x).toList from List.append_nil _]
          exact O9.out
        case measure => simp [intOf]; omega
      · have q1 : (d == []) = false := by rw [beq_eq_false_iff_ne]; exact hd
        have q2 : d.isEmpty = false := by cases d with | nil => exact absurd rfl hd | cons _ _ => rfl
        by_cases hp : x.path = d
        · have IY := Lib.hid (YES.out (by rw [ID.out, decide_eq_true hp, Bool.true_or, Bool.or_true]))
          have q3 : (x.path == d) = true := beq_iff_eq.2 hp
          clear hp
          refine wp_region_det (fun W => Ext w6 W) (by kernel_rfl) (by kernel_rfl) (Below.refl _ _).drew ?_
          repeat (first
            | (refine det_step (fun K hK => ?_)
               apply Exists.intro
               refine ⟨Or.inl ⟨rfl, fun W hS => ?_⟩, ?_⟩
               · replace hS : Ext w6 W := hS
                 have z := hS.cell FW.out; have f0 := hS.cell F0.out
                 go_simp
                 first
                 | exact rfl
                 | exact ⟨rfl, hS⟩
                 | (refine (UC.out W (E1.out.trans (EW.out.trans hS))).mono ?_; rintro e w9 ⟨rfl, hb9⟩; exact ⟨rfl, hS.trans hb9⟩)
               go_simp
               refine hK _ ?_
               clear hK K)
            | (refine det_step (fun K hK => ?_); refine det_no' rfl ?_; go_simp; refine hK _ ?_; clear hK K))
          refine det_nil ?_
          intro W9 hS
          replace hS : Ext _ W9 := hS
          have f0 := hS.cell F0.out
          have f1 := hS.cell F1.out
          have f2 := hS.cell F2.out
          have f3 := hS.cell F3.out
          have EV := Lib.hid (EW.out.trans hS)
          have O7 := Lib.hid (own_ext O6.out hS)
          clear hS
          have tokA : True := trivial
          have tokS : True := trivial
          go_wp2_with (first
            | (have _t := tokS; (with_reducible refine at_bslice rfl ?_); refine bslice_one rfl 74 88 _ rfl appChg (by decide) (chgC x) rfl rfl ?_; clear tokS _t)
            | (have _t := tokA; at_builtin; refine app_new appChg rfl _ _ rfl w1.heap.size _ q.length _ rfl O7.out (chgC x) 88 1 rfl rfl (chg_one x) (by decide) (by omega) EV.out.size ?_; intro g9 cap9 w9 hown9 hgr9 hb9 hbg9; have O9 := Lib.hid hown9; have B9 := Lib.hid (Below.trans EV.out hb9); clear tokA _t hown9 hgr9 hb9 hbg9))
          go_roundw
          case rel =>
            refine ⟨k + 1, by omega, by go_num, ?_, B9.out⟩
            rw [IY.out, List.length_append, chgsC_append, show chgsC [x] = (chgC x).toList from List.append_nil _]
            exact O9.out
          case measure => simp [intOf]; omega
        · have q3 : (x.path == d) = false := by rw [beq_eq_false_iff_ne]; exact hp
          have IU := Lib.hid (show Sp.inD d x.path = u by rw [ID.out, decide_eq_false hd, decide_eq_false hp]; rfl)
          refine wp_region_det (fun W => Ext w6 W) (by kernel_rfl) (by kernel_rfl) (Below.refl _ _).drew ?_
          repeat (first
            | (refine det_step (fun K hK => ?_)
               apply Exists.intro
               refine ⟨Or.inl ⟨rfl, fun W hS => ?_⟩, ?_⟩
               · replace hS : Ext w6 W := hS
                 have z := hS.cell FW.out; have f0 := hS.cell F0.out
                 go_simp
                 first
                 | exact rfl
                 | exact ⟨rfl, hS⟩
                 | (refine (UC.out W (E1.out.trans (EW.out.trans hS))).mono ?_; rintro e w9 ⟨rfl, hb9⟩; exact ⟨rfl, hS.trans hb9⟩)
               go_simp
               refine hK _ ?_
               clear hK K)
            | (refine det_step (fun K hK => ?_); refine det_no' rfl ?_; go_simp; refine hK _ ?_; clear hK K))
          refine det_nil ?_
          intro W9 hS
          replace hS : Ext _ W9 := hS
          clear ID UC
          cases u with
          | true =>
            have IY := Lib.hid (YES.out IU.out)
            have f0 := hS.cell F0.out
            have f1 := hS.cell F1.out
            have f2 := hS.cell F2.out
            have f3 := hS.cell F3.out
            have EV := Lib.hid (EW.out.trans hS)
            have O7 := Lib.hid (own_ext O6.out hS)
            clear hS
            have tokA : True := trivial
            have tokS : True := trivial
            go_wp2_with (first
              | (have _t := tokS; (with_reducible refine at_bslice rfl ?_); refine bslice_one rfl 74 88 _ rfl appChg (by decide) (chgC x) rfl rfl ?_; clear tokS _t)
              | (have _t := tokA; at_builtin; refine app_new appChg rfl _ _ rfl w1.heap.size _ q.length _ rfl O7.out (chgC x) 88 1 rfl rfl (chg_one x) (by decide) (by omega) EV.out.size ?_; intro g9 cap9 w9 hown9 hgr9 hb9 hbg9; have O9 := Lib.hid hown9; have B9 := Lib.hid (Below.trans EV.out hb9); clear tokA _t hown9 hgr9 hb9 hbg9))
            go_roundw
            case rel =>
              refine ⟨k + 1, by omega, by go_num, ?_, B9.out⟩
              rw [IY.out, List.length_append, chgsC_append, show chgsC [x] = (chgC x).toList from List.append_nil _]
              exact O9.out
            case measure => simp [intOf]; omega
          | false =>
            have IN := Lib.hid (NOO.out IU.out)
            go_wp2
            go_roundw
            case rel => exact ⟨k + 1, by omega, by go_num, by rw [IN.out]; exact own_ext O6.out hS, EW.out.trans hS⟩
            case measure => simp [intOf]; omega
    · obtain rfl : k = R.length := by omega
      rw [List.take_length, ← Q0.out] at HO
      have XR := Lib.hid (X1.out.below hb)
      have GL := Lib.hid (X0.out.lt)
      have k1 := XR.out.frozen 1
      have k2 := XR.out.frozen 2
      have e1 : wr.cell? ⟨g, 1, none⟩ = some (.pointer pa) := (XR.out.cell 1).trans rfl
      have e2 : wr.cell? ⟨g, 2, none⟩ = some (.int .i64 n) := (XR.out.cell 2).trans rfl
      have wn : IntKind.i64.wrap ((n : Int) + (q0.length : Int)) = ((n + q0.length : Nat) : Int) := by rw [show (n : Int) + (q0.length : Int) = ((n + q0.length : Nat) : Int) by omega]; exact IntWalk.i64_in _ (by omega)
      clear hb
      obtain ⟨A5, c5, rfl, _⟩ := own_read HO.out
      go_wp2
      go_ret
      obtain ⟨w8, hw8⟩ : ∃ w8, w8 = (wr.setCell ⟨g, 1, none⟩ (.pointer pb)).setCell ⟨g, 2, none⟩ (.int .i64 ((n : Int) + (q0.length : Int))) := ⟨_, rfl⟩
      rw [← hw8]
      have Z1 := XR.out.put 1 (.pointer pb) (cs' := #[.string (strOf d), .pointer pb, .int .i64 n]) rfl
      have K8 : KB watT g wr w8 := by rw [hw8]; exact (KB.set (T := watT) XR.out rfl (Nat.le_refl _) _).trans (KB.set (T := watT) Z1 rfl (Nat.le_refl _) _)
      have X8 : isBlk w8 g 167 (watC d (.pointer pb) (n + q0.length)) := by rw [hw8]; exact Z1.put 2 _ rfl
      exact ⟨_, rfl, own_keep (T := watT) (by decide) (own_lowT HO.out E1.out.size) K8, X8, (KB.ext (Nat.le_of_lt GL.out) (E1.out.trans HX.out)).trans K8⟩
set_option maxRecDepth 100000 in
set_option maxHeartbeats 4000000 in
theorem rwins_is (a b : Sp.Ver) (A B : Option Addr) (c d : Nat) (w : World) : Calls Tryz.prog 182 #[.agg (verC A c a), .agg (verC B d b)] w fun e w' => e = .returned (.bool (Sp.wins a b)) ∧ Ext w w' := by
  show Calls Tryz.prog 182 #[.agg #[.int .i64 a.dot.1, .int .i64 a.dot.2, .slice A a.past.length c, .bool a.dead, .string (strOf a.data)], .agg #[.int .i64 b.dot.1, .int .i64 b.dot.2, .slice B b.past.length d, .bool b.dead, .string (strOf b.data)]] w _
  obtain ⟨rr, hrr⟩ : ∃ rr, rr = Sp.wins a b := ⟨_, rfl⟩
  rw [← hrr]
  have RR := Lib.hid hrr
  clear hrr
  go_enter Tryz.func182, Tryz.ntmps182
  go_upto_region 1 with fail
  obtain ⟨w0, hw0⟩ : ∃ w0, w0 = (w.alloc (.cells #[.int .i64 a.dot.1, .int .i64 a.dot.2, .slice A a.past.length c, .bool a.dead, .string (strOf a.data)] 71)).alloc (.cells #[.int .i64 b.dot.1, .int .i64 b.dot.2, .slice B b.past.length d, .bool b.dead, .string (strOf b.data)] 71) := ⟨_, rfl⟩
  have X0 := Lib.hid (show isBlk w0 w.heap.size 71 #[.int .i64 a.dot.1, .int .i64 a.dot.2, .slice A a.past.length c, .bool a.dead, .string (strOf a.data)] by rw [hw0]; exact (box_at w _ _).alloc _)
  have Y0 := Lib.hid (show isBlk w0 (w.heap.size + 1) 71 #[.int .i64 b.dot.1, .int .i64 b.dot.2, .slice B b.past.length d, .bool b.dead, .string (strOf b.data)] by
    rw [hw0]
    have := box_at (w.alloc (.cells #[.int .i64 a.dot.1, .int .i64 a.dot.2, .slice A a.past.length c, .bool a.dead, .string (strOf a.data)] 71)) #[.int .i64 b.dot.1, .int .i64 b.dot.2, .slice B b.past.length d, .bool b.dead, .string (strOf b.data)] 71
    rwa [World.size_alloc] at this)
  have E0 := Lib.hid (show Ext w w0 by rw [hw0]; exact Below.alloc (Ext.alloc _ _) (by simp) _)
  rw [← hw0]
  clear hw0
  have f0 := (X0.out.cell 0).trans rfl
  have f1 := (X0.out.cell 1).trans rfl
  have f3 := (X0.out.cell 3).trans rfl
  have k0 := (Y0.out.cell 0).trans rfl
  have k1 := (Y0.out.cell 1).trans rfl
  have k3 := (Y0.out.cell 3).trans rfl
  obtain ⟨p, hp⟩ : ∃ p, p = a.dead := ⟨_, rfl⟩
  obtain ⟨q, hq⟩ : ∃ q, q = b.dead := ⟨_, rfl⟩
  obtain ⟨x, hx⟩ : ∃ x, x = a.dot.2 := ⟨_, rfl⟩
  obtain ⟨y, hy⟩ : ∃ y, y = b.dot.2 := ⟨_, rfl⟩
  obtain ⟨x', hx'⟩ : ∃ x', x' = a.dot.1 := ⟨_, rfl⟩
  obtain ⟨y', hy'⟩ : ∃ y', y' = b.dot.1 := ⟨_, rfl⟩
  have WS := Lib.hid (show rr = if p = q then (decide (y < x) || (decide (x = y) && decide (y' < x'))) else q by rw [RR.out, hp, hq, hx, hy, hx', hy']; rfl)
  rw [← hp] at f3
  rw [← hq] at k3
  rw [← hx] at f1
  rw [← hy] at k1
  rw [← hx'] at f0
  rw [← hy'] at k0
  clear hp hq hx hy hx' hy' RR
  by_cases hpq : p = q
  · have t1 : (p == q) = true := by simpa using hpq
    by_cases hxy : x = y
    · have t2 : (x == y) = true := by simpa using hxy
      have W2 := Lib.hid (show rr = decide (y' < x') by
        rw [WS.out, if_pos hpq, hxy]
        simp)
      clear hpq hxy WS
      go_wp2
      go_ret
      exact ⟨ret_bool W2.out.symm, E0.out⟩
    · have t2 : (x == y) = false := by simpa using hxy
      have W2 := Lib.hid (show rr = decide (y < x) by
        rw [WS.out, if_pos hpq, decide_eq_false hxy, Bool.false_and, Bool.or_false])
      clear hpq hxy WS
      go_wp2
      go_ret
      exact ⟨ret_bool W2.out.symm, E0.out⟩
  · have t1 : (p == q) = false := by simpa using hpq
    have W2 := Lib.hid (show rr = q by rw [WS.out, if_neg hpq])
    clear hpq WS
    go_wp2
    go_ret
    exact ⟨ret_bool W2.out.symm, E0.out⟩
namespace Sp
theorem rbest_take (x : List Ver) (k : Nat) (h : k < x.length) (hn : ∀ j (hj : j < k), (x.any fun e => wins e (x[j]'(by omega))) = true) (hk : (x.any fun e => wins e x[k]) = false) : rbest x = some x[k] := by
  unfold rbest
  refine List.find?_eq_some_iff_append.2 ⟨by rw [hk]; rfl, x.take k, x.drop (k + 1), ?_, fun y hy => ?_⟩
  · conv => lhs; rw [← List.take_append_drop k x, List.drop_eq_getElem_cons h]
  · obtain ⟨j, hj, rfl⟩ := List.mem_iff_getElem.1 hy
    rw [List.length_take] at hj
    rw [List.getElem_take, hn j (by omega)]
    rfl
theorem rbest_none (x : List Ver) (hn : ∀ j (hj : j < x.length), (x.any fun e => wins e x[j]) = true) : rbest x = none := by
  unfold rbest
  rw [List.find?_eq_none]
  intro y hy
  obtain ⟨j, hj, rfl⟩ := List.mem_iff_getElem.1 hy
  rw [hn j hj]
  simp
end Sp
set_option maxRecDepth 100000 in
set_option maxHeartbeats 8000000 in
theorem rwinner_is (l : List Sp.Ver) (A : Option Addr) (cap : Nat) (w : World) (h : Vers w A l) (hl : l.length ≤ 1000) :
    Calls Tryz.prog 116 #[.slice A l.length cap] w fun e w' => ∃ A' c', e = .returned (.tuple #[.agg (verC A' c' ((Sp.winner l).getD Sp.verZ)), .bool (decide (Sp.live l ≠ []))]) ∧ Ext w w' := by
  have LC := Lib.hid fun W (e : Ext w W) => rlive_calls l A cap W (h.ext e) (by omega)
  have QL : (Sp.live l).length ≤ l.length := List.length_filter_le _ _
  have RW := Lib.hid (Sp.rbest_winner l)
  have NE := Lib.hid (show (Sp.winner l).isSome = decide (Sp.live l ≠ []) from Sp.winner_some)
  obtain ⟨wn, hwn⟩ : ∃ wn, wn = Sp.winner l := ⟨_, rfl⟩
  rw [← hwn] at RW NE ⊢
  obtain ⟨bb, hbb⟩ : ∃ bb, bb = decide (Sp.live l ≠ []) := ⟨_, rfl⟩
  rw [← hbb] at NE ⊢
  obtain ⟨q, hq⟩ : ∃ q, q = Sp.live l := ⟨_, rfl⟩
  rw [← hq] at LC QL RW
  clear hq h hwn hbb
  go_enter Tryz.func116, Tryz.ntmps116
  go_upto_region 1 with fail
  obtain ⟨w0, hw0⟩ : ∃ w0, w0 = w.alloc (.cells #[.int .i64 0, .int .i64 0, .slice none 0 0, .bool false, .string ⟨#[]⟩] 71) := ⟨_, rfl⟩
  have X0 := Lib.hid (show isBlk w0 w.heap.size 71 #[.int .i64 0, .int .i64 0, .slice none 0 0, .bool false, .string ⟨#[]⟩] by rw [hw0]; exact box_at w _ _)
  have E0 := Lib.hid (show Ext w w0 by rw [hw0]; exact Ext.alloc _ _)
  rw [← hw0]
  clear hw0
  go_wp2_with fail
  refine (LC.out w0 E0.out).mono ?_
  rintro e w2 ⟨v2, rfl, hO2, hb2⟩
  obtain ⟨A2, c2, rfl, hV2⟩ := hO2.read
  have V2 := Lib.hid hV2
  have X2 := Lib.hid (X0.out.below hb2)
  have E2 := Lib.hid (E0.out.trans hb2)
  clear hO2 hV2 hb2 X0 LC
  go_wp2
  go_loopw [5] (fun v5 wr => ∃ i : Nat, i ≤ q.length ∧ v5 = .int .i64 i ∧ (∀ j (hj : j < i) (hj' : j < q.length), (q.any fun e => Sp.wins e q[j]) = true) ∧ Ext w2 wr) (fun v5 _ => q.length - (intOf v5).toNat)
  case atStart => exact ⟨0, Nat.zero_le _, rfl, fun j hj => absurd hj (Nat.not_lt_zero _), Ext.refl _⟩
  case round =>
    obtain ⟨i, hi, rfl, hN, hb⟩ := hrel
    have HN := Lib.hid hN
    have HB := Lib.hid hb
    clear hN hb
    by_cases hlt : i < q.length
    · obtain ⟨eb, eo, rfl, hc⟩ := V2.out.at (by omega)
      obtain ⟨A3, c3, ⟨c0, c1, c2x, c3x, c4⟩, pst⟩ := hc i hlt
      have I0 := Lib.hid c0
      have I1 := Lib.hid c1
      have I2 := Lib.hid c2x
      have I3 := Lib.hid c3x
      have I4 := Lib.hid c4
      have HC := Lib.hid hc
      have WI := Lib.hid (show ∀ k, (hk : k < q.length) → ((q.take (k + 1)).any fun e => Sp.wins e q[i]) = (((q.take k).any fun e => Sp.wins e q[i]) || Sp.wins q[k] q[i]) from fun k hk => by
        rw [List.take_succ_eq_append_getElem hk, List.any_append]
        simp)
      have FI := Lib.hid (show (q.any fun e => Sp.wins e q[i]) = false → wn = some q[i] from fun h => by
        rw [← RW.out]
        exact Sp.rbest_take q i hlt (fun j hj => HN.out j hj (by omega)) h)
      have NI := Lib.hid (show (q.any fun e => Sp.wins e q[i]) = true → ∀ j (hj : j < i + 1) (hj' : j < q.length), (q.any fun e => Sp.wins e q[j]) = true from fun h j hj hj' => by
        rcases Nat.lt_or_ge j i with h1 | h1
        · exact HN.out j h1 hj'
        · have : j = i := by omega
          subst this
          exact h)
      obtain ⟨xi, hxi⟩ : ∃ xi, xi = q[i] := ⟨_, rfl⟩
      rw [← hxi] at I0 I1 I2 I3 I4 WI FI NI
      have ib : (i : Int) < (q.length : Int) := by omega
      clear hc c0 c1 c2x c3x c4 pst hxi
      go_wp2
      go_loopw [6, 7] (fun v6 v7 wr2 => ∃ k : Nat, k ≤ q.length ∧ v7 = .int .i64 k ∧ v6 = .bool ((q.take k).any fun e => Sp.wins e xi) ∧ Ext w2 wr2) (fun _ v7 _ => q.length - (intOf v7).toNat)
      case atStart => exact ⟨0, Nat.zero_le _, rfl, rfl, HB.out⟩
      case round =>
        obtain ⟨k, hk, rfl, rfl, hb2⟩ := hrel
        have HB2 := Lib.hid hb2
        clear hb2
        by_cases hlt2 : k < q.length
        · obtain ⟨A6, c6, ⟨d0, d1, d2, d3, d4⟩, _⟩ := HC.out k hlt2
          have WK := Lib.hid (WI.out k hlt2)
          obtain ⟨xk, hxk⟩ : ∃ xk, xk = q[k] := ⟨_, rfl⟩
          rw [← hxk] at d0 d1 d2 d3 d4 WK
          have J0 := Lib.hid d0
          have J1 := Lib.hid d1
          have J2 := Lib.hid d2
          have J3 := Lib.hid d3
          have J4 := Lib.hid d4
          obtain ⟨b, hbq⟩ : ∃ b, b = (q.take k).any fun e => Sp.wins e xi := ⟨_, rfl⟩
          rw [← hbq] at WK ⊢
          have kb : (k : Int) < (q.length : Int) := by omega
          have WC := Lib.hid fun W => rwins_is xk xi A6 A3 c6 c3 W
          obtain ⟨u, hu⟩ : ∃ u, u = Sp.wins xk xi := ⟨_, rfl⟩
          rw [← hu] at WC WK
          clear d0 d1 d2 d3 d4 hxk hbq hu
          cases b with
          | true =>
            have A2 := Lib.hid (show ((q.take (k + 1)).any fun e => Sp.wins e xi) = true by rw [WK.out]; rfl)
            clear WK
            go_wp2_with fail
            refine wp_region_det (fun W => Ext wr W) (by kernel_rfl) (by kernel_rfl) (Below.refl _ _).drew ?_
            repeat (first
              | (refine det_step (fun K hK => ?_)
                 apply Exists.intro
                 refine ⟨Or.inl ⟨rfl, fun W hS => ?_⟩, ?_⟩
                 · replace hS : Ext wr W := hS
                   skip
                   go_simp
                   first
                   | exact rfl
                   | exact ⟨rfl, hS⟩
                   | (fail)
                 go_simp
                 refine hK _ ?_
                 clear hK K)
              | (refine det_step (fun K hK => ?_); refine det_no' rfl ?_; go_simp; refine hK _ ?_; clear hK K))
            refine det_nil ?_
            intro W9 hS
            replace hS : Ext _ W9 := hS
            go_wp2
            go_roundw
            case rel => exact ⟨k + 1, by omega, by go_num, by rw [A2.out], HB2.out.trans hS⟩
            case measure => simp [intOf]; omega
          | false =>
            have A2 := Lib.hid (show ((q.take (k + 1)).any fun e => Sp.wins e xi) = u by rw [WK.out]; simp)
            clear WK
            go_wp2_with fail
            refine wp_region_det (fun W => Ext wr W) (by kernel_rfl) (by kernel_rfl) (Below.refl _ _).drew ?_
            repeat (first
              | (refine det_step (fun K hK => ?_)
                 apply Exists.intro
                 refine ⟨Or.inl ⟨rfl, fun W hS => ?_⟩, ?_⟩
                 · replace hS : Ext wr W := hS
                   have z := HB2.out.trans hS; have f0 := z.cell I0.out; have f1 := z.cell I1.out; have f2 := z.cell I2.out; have f3 := z.cell I3.out; have f4 := z.cell I4.out; have g0 := z.cell J0.out; have g1 := z.cell J1.out; have g2 := z.cell J2.out; have g3 := z.cell J3.out; have g4 := z.cell J4.out
                   go_simp
                   first
                   | exact rfl
                   | exact ⟨rfl, hS⟩
                   | (refine (WC.out W).mono ?_; rintro e w9 ⟨rfl, hb9⟩; exact ⟨rfl, hS.trans hb9⟩)
                 go_simp
                 refine hK _ ?_
                 clear hK K)
              | (refine det_step (fun K hK => ?_); refine det_no' rfl ?_; go_simp; refine hK _ ?_; clear hK K))
            refine det_nil ?_
            intro W9 hS
            replace hS : Ext _ W9 := hS
            go_wp2
            go_roundw
            case rel => exact ⟨k + 1, by omega, by go_num, by rw [A2.out], HB2.out.trans hS⟩
            case measure => simp [intOf]; omega
        · obtain rfl : k = q.length := by omega
          rw [List.take_length]
          obtain ⟨b, hbq⟩ : ∃ b, b = q.any fun e => Sp.wins e xi := ⟨_, rfl⟩
          rw [← hbq] at FI NI ⊢
          clear hbq
          cases b with
          | true =>
            go_wp2
            go_roundw
            case rel => exact ⟨i + 1, by omega, by go_num, NI.out rfl, HB2.out⟩
            case measure => simp [intOf]; omega
          | false =>
            have FN := Lib.hid (FI.out rfl)
            have BT := Lib.hid (show bb = true by rw [← NE.out, FN.out]; rfl)
            have f0 := HB2.out.cell I0.out
            have f1 := HB2.out.cell I1.out
            have f2 := HB2.out.cell I2.out
            have f3 := HB2.out.cell I3.out
            have f4 := HB2.out.cell I4.out
            have Z2 := Lib.hid (X2.out.below HB2.out)
            have g0 := Z2.out.frozen 0
            have g1 := Z2.out.frozen 1
            have g2 := Z2.out.frozen 2
            have g3 := Z2.out.frozen 3
            have g4 := Z2.out.frozen 4
            have e0 := (Z2.out.cell 0).trans rfl
            have e1 := (Z2.out.cell 1).trans rfl
            have e2 := (Z2.out.cell 2).trans rfl
            have e3 := (Z2.out.cell 3).trans rfl
            have e4 := (Z2.out.cell 4).trans rfl
            have EW := Lib.hid (E2.out.trans HB2.out)
            clear FI NI
            go_wp2
            refine bodyPost_ret (results_cell_pair rfl _ _ w.heap.size 71 (verL A3 c3 xi) _ rfl (((((Z2.out.put 0 _ rfl).put 1 _ rfl).put 2 _ rfl).put 3 _ rfl).put 4 _ rfl) Tryz.underlying71 rfl (by kernel_rfl)) rfl ?_
            rw [FN.out, BT.out]
            exact ⟨A3, c3, rfl, ((((EW.out.setCell (p := ⟨w.heap.size, 0, none⟩) (by simp) _).setCell (p := ⟨w.heap.size, 1, none⟩) (by simp) _).setCell (p := ⟨w.heap.size, 2, none⟩) (by simp) _).setCell (p := ⟨w.heap.size, 3, none⟩) (by simp) _).setCell (p := ⟨w.heap.size, 4, none⟩) (by simp) _⟩
    · obtain rfl : i = q.length := by omega
      have FN := Lib.hid (show wn = none by rw [← RW.out]; exact Sp.rbest_none q fun j hj => HN.out j hj hj)
      have BT := Lib.hid (show bb = false by rw [← NE.out, FN.out]; rfl)
      have Z2 := Lib.hid (X2.out.below HB.out)
      have g0 := Z2.out.frozen 0
      have g1 := Z2.out.frozen 1
      have g2 := Z2.out.frozen 2
      have g3 := Z2.out.frozen 3
      have g4 := Z2.out.frozen 4
      have e0 := (Z2.out.cell 0).trans rfl
      have e1 := (Z2.out.cell 1).trans rfl
      have e2 := (Z2.out.cell 2).trans rfl
      have e3 := (Z2.out.cell 3).trans rfl
      have e4 := (Z2.out.cell 4).trans rfl
      have EW := Lib.hid (E2.out.trans HB.out)
      clear HN RW
      go_wp2
      refine bodyPost_ret (results_cell_pair rfl _ _ w.heap.size 71 (verL none 0 Sp.verZ) _ rfl (((((Z2.out.put 0 _ rfl).put 1 _ rfl).put 2 _ rfl).put 3 _ rfl).put 4 _ rfl) Tryz.underlying71 rfl (by kernel_rfl)) rfl ?_
      rw [FN.out, BT.out]
      exact ⟨none, 0, rfl, ((((EW.out.setCell (p := ⟨w.heap.size, 0, none⟩) (by simp) _).setCell (p := ⟨w.heap.size, 1, none⟩) (by simp) _).setCell (p := ⟨w.heap.size, 2, none⟩) (by simp) _).setCell (p := ⟨w.heap.size, 3, none⟩) (by simp) _).setCell (p := ⟨w.heap.size, 4, none⟩) (by simp) _⟩
namespace Sp
def readS (m : List DE) (p : Bs) : Bs × Int := if check p = 0 then (if live (rget m p) = [] then ([], 3) else (data0 (rget m p), 0)) else ([], check p)
end Sp
def filesC : List Sp.Fl → List Value
  | [] => []
  | f :: r => .string (strOf f.1) :: .string (strOf f.2) :: filesC r
theorem filesC_append (l m : List Sp.Fl) : filesC (l ++ m) = filesC l ++ filesC m := by
  induction l with
  | nil => rfl
  | cons x r ih => rw [List.cons_append, filesC, ih, filesC]; rfl
theorem filesC_len : ∀ l : List Sp.Fl, (filesC l).length = l.length * 2
  | [] => rfl
  | f :: r => by
    have := filesC_len r
    show (filesC r).length + 1 + 1 = (r.length + 1) * 2
    omega
theorem filesC_get : ∀ (l : List Sp.Fl) (k : Nat) (h : k < l.length), (filesC l)[k * 2]? = some (.string (strOf l[k].1)) ∧ (filesC l)[k * 2 + 1]? = some (.string (strOf l[k].2))
  | f :: r, 0, _ => ⟨rfl, rfl⟩
  | f :: r, k + 1, h => by
    have ih := filesC_get r k (by simpa using h)
    rw [show (k + 1) * 2 = k * 2 + 1 + 1 by omega]
    exact ih
theorem file_at {w : World} {A : Option Addr} {l : List Sp.Fl} (h : Cells w A (filesC l)) (hn : 0 < l.length) : ∃ g o, A = some ⟨g, o, none⟩ ∧ ∀ k (hk : k < l.length), w.cell? ⟨g, o + k * 2, none⟩ = some (.string (strOf l[k].1)) ∧ w.cell? ⟨g, o + k * 2 + 1, none⟩ = some (.string (strOf l[k].2)) := by
  obtain ⟨g, o, hA, hc⟩ := h (by intro e; have := filesC_len l; rw [e] at this; simp at this; omega)
  refine ⟨g, o, hA, fun k hk => ⟨?_, ?_⟩⟩
  · exact hc _ _ (filesC_get l k hk).1
  · rw [Nat.add_assoc]; exact hc _ _ (filesC_get l k hk).2
theorem appFile : AppStat Tryz.prog 83 86 2 32 := by
  refine ⟨Tryz.underlying83, by decide, by decide, ?_⟩
  obtain ⟨i0, hi, hz0, hz1, hz2⟩ := info_parts (show (Tryz.prog.info? 86).map (fun i => (i.zero, i.size, i.bytes)) = some (some (.agg #[.string ⟨#[]⟩, .string ⟨#[]⟩]), 2, 32) by kernel_rfl)
  exact ⟨i0, _, hi, hz0, hz1, hz2, by kernel_rfl⟩
set_option maxRecDepth 100000 in
set_option maxHeartbeats 4000000 in
theorem rread_calls (m : List Sp.DE) (hm : ∀ p, (Sp.rget m p).length ≤ 1000) (ml : m.length ≤ 1000000) (A : Option Addr) (cap : Nat) (p : Sp.Bs) (hp : p.length ≤ 1000) (w : World) (h : EntsAt w A m) :
    Calls Tryz.prog 57 #[.slice A m.length cap, .string (strOf p)] w fun e w' => e = .returned (.tuple #[.string (strOf (Sp.readS m p).1), .int .i64 (Sp.readS m p).2]) ∧ Ext w w' := by
  have CK := Lib.hid (rcheck_calls (strOf p) w (by rw [strOf_size]; omega))
  simp only [strOf_data] at CK
  have GC := Lib.hid fun W (e : Ext w W) => rget_calls m A cap p W (h.ext e) ml
  have WC := Lib.hid fun A c W (h : Vers W A (Sp.rget m p)) => rwinner_is (Sp.rget m p) A c W h (hm p)
  have D0 := Lib.hid (data0_win (Sp.rget m p))
  obtain ⟨rs, hrs⟩ : ∃ rs, rs = Sp.readS m p := ⟨_, rfl⟩
  rw [← hrs]
  have RS := Lib.hid (show rs = if Sp.check p = 0 then (if Sp.live (Sp.rget m p) = [] then ([], 3) else (Sp.data0 (Sp.rget m p), 0)) else ([], Sp.check p) from hrs)
  obtain ⟨l, hl⟩ : ∃ l, l = Sp.rget m p := ⟨_, rfl⟩
  rw [← hl] at GC WC D0 RS
  obtain ⟨x, hx⟩ : ∃ x, x = (Sp.winner l).getD Sp.verZ := ⟨_, rfl⟩
  rw [← hx] at WC D0
  rw [D0.out] at RS
  obtain ⟨bq, hbq⟩ : ∃ bq, bq = decide (Sp.live l ≠ []) := ⟨_, rfl⟩
  rw [← hbq] at WC
  have BQ := Lib.hid hbq
  obtain ⟨ck, hck⟩ : ∃ ck, ck = Sp.check p := ⟨_, rfl⟩
  rw [← hck] at CK RS
  clear h hrs hx D0 hbq hl hck hm
  go_enter Tryz.func57, Tryz.ntmps57
  go_wp2_with fail
  refine CK.out.mono ?_
  rintro e w1 ⟨rfl, hb1⟩
  have E1 := Lib.hid (show Ext w w1 from hb1)
  clear hb1 CK
  by_cases hc : ck = 0
  case neg =>
    have q1 : (ck != 0) = true := bne_iff_ne.2 hc
    rw [if_neg hc] at RS
    clear hc
    go_wp2
    go_ret2
    exact ⟨by rw [RS.out]; rfl, E1.out⟩
  subst hc
  rw [if_pos rfl] at RS
  go_wp2_with fail
  refine (GC.out w1 E1.out).mono ?_
  rintro e w2 ⟨A2, c2, rfl, hv2, rfl⟩
  have WW := Lib.hid (WC.out A2 c2 w1 hv2)
  clear hv2 GC WC
  go_wp2_with fail
  refine WW.out.mono ?_
  rintro e w3 ⟨A3, c3, rfl, hb3⟩
  have E3 := Lib.hid (E1.out.trans hb3)
  clear hb3 WW
  have tok1 : True := trivial
  go_upto_region 5 with (have _t := tok1; ((with_reducible refine at_alloc (t := 71) rfl ?_); refine box_new rfl (cs := #[.int .i64 0, .int .i64 0, .slice none 0 0, .bool false, .string ⟨#[]⟩]) (t := 71) (by first | (go_simp; done) | (go_simp; rfl)) ?_; intro g2 w2 hg2 hx2 hb2; have H2 := Lib.hid hx2; have B2 := Lib.hid (show Ext w3 w2 from hb2); have GG2 := Lib.hid hg2; have k0 := hx2.frozen 0; have k1 := hx2.frozen 1; have k2 := hx2.frozen 2; have k3 := hx2.frozen 3; have k4 := hx2.frozen 4; have e0 := (hx2.cell 0).trans rfl; have e1 := (hx2.cell 1).trans rfl; have e2 := (hx2.cell 2).trans rfl; have e3 := (hx2.cell 3).trans rfl; have e4 := (hx2.cell 4).trans rfl; clear tok1 _t hx2 hb2 hg2))
  obtain ⟨w4, hw4⟩ : ∃ w4, w4 = ((((w2.setCell ⟨g2, 0, none⟩ (.int .i64 x.dot.1)).setCell ⟨g2, 1, none⟩ (.int .i64 x.dot.2)).setCell ⟨g2, 2, none⟩ (.slice A3 x.past.length c3)).setCell ⟨g2, 3, none⟩ (.bool x.dead)).setCell ⟨g2, 4, none⟩ (.string (strOf x.data)) := ⟨_, rfl⟩
  have X4 := Lib.hid (show isBlk w4 g2 71 #[.int .i64 x.dot.1, .int .i64 x.dot.2, .slice A3 x.past.length c3, .bool x.dead, .string (strOf x.data)] by rw [hw4]; exact ((((H2.out.put 0 _ rfl).put 1 _ rfl).put 2 _ rfl).put 3 _ rfl).put 4 _ rfl)
  have E4 := Lib.hid (show Ext w3 w4 by rw [hw4]; exact ((((B2.out.setCell GG2.out _).setCell GG2.out _).setCell GG2.out _).setCell GG2.out _).setCell GG2.out _)
  rw [← hw4]
  clear hw4 k0 k1 k2 k3 k4 e0 e1 e2 e3 e4
  have F4 := Lib.hid (E3.out.trans E4.out)
  by_cases hq : Sp.live l = []
  · rw [if_pos hq] at RS
    obtain rfl : bq = false := by rw [BQ.out, decide_eq_false_iff_not]; simpa using hq
    clear hq BQ
    go_wp2
    go_ret2
    exact ⟨by rw [RS.out]; rfl, F4.out⟩
  · rw [if_neg hq] at RS
    obtain rfl : bq = true := by rw [BQ.out]; exact decide_eq_true hq
    have f4 := (X4.out.cell 4).trans rfl
    clear hq BQ
    go_wp2
    go_ret2
    exact ⟨by rw [RS.out]; rfl, F4.out⟩
namespace Sp
abbrev Use := Nat × Nat × Nat × Nat
end Sp
def useC (u : Sp.Use) : Array Value := #[.int .i64 u.1, .int .i64 u.2.1, .int .i64 u.2.2.1, .int .i64 u.2.2.2]
namespace Sp
def Small (n : Nat) (u : Use) : Prop := u.1 ≤ n ∧ u.2.1 ≤ n ∧ u.2.2.1 ≤ n ∧ u.2.2.2 ≤ n
end Sp
def usesC : List Sp.Use → List Value
  | [] => []
  | u :: r => (useC u).toList ++ usesC r
def Uses (w : World) (A : Option Addr) (l : List Sp.Use) : Prop := Cells w A (usesC l)
namespace Sp
end Sp
theorem vers_e18 {w : World} {g : Nat} {t : TypeId} (v : Sp.Ver) (hv : v.past = []) (h : isBlk w g t (verC none 0 v)) : Vers w (some ⟨g, 0, none⟩) [v] :=
  ⟨[(none, 0, v)], rfl, fun _ => ⟨g, 0, rfl, fun i u hi => by
    rw [Nat.zero_add, h.cell i]
    have : (verC none 0 v).toList ++ [] = (verC none 0 v).toList := List.append_nil _
    rw [versC, versC, this] at hi
    simpa using hi⟩, fun x hx => by
    obtain rfl := List.mem_singleton.1 hx
    exact ⟨by rw [hv]; exact Cells.nil _ _, by rw [hv]; exact Nat.zero_le _⟩⟩
set_option maxRecDepth 100000 in
theorem great18_calls (l m : List Sp.DE) (A B : Option Addr) (c c' : Nat) (w : World) (h : EntsAt w A l) (h' : EntsAt w B m) :
    Calls Tryz.prog 15 #[.slice A l.length c, .slice B m.length c'] w fun e w' => ∃ b : Bool, e = .returned (.bool b) ∧ (b = false → (l.length ≤ 12 ∧ ∀ e ∈ l, e.1.length ≤ 200) ∧ m.length ≤ 12 ∧ ∀ e ∈ m, e.1.length ≤ 200) ∧ Ext w w' := by
  have HH := Lib.hid h
  have HH' := Lib.hid h'
  clear h h'
  go_enter Tryz.func15, Tryz.ntmps15
  go_wp2_with fail
  refine (great15_calls l A c 12 w HH.out (by decide)).mono ?_
  rintro e w1 ⟨b, rfl, hgr, hb1⟩
  have E1 := Lib.hid (show Ext w w1 from hb1)
  have G1 := Lib.hid hgr
  clear hgr hb1
  cases b with
  | true =>
    go_wp2
    go_ret
    exact ⟨true, rfl, (fun h => by cases h), E1.out⟩
  | false =>
    go_wp2_with fail
    refine (great15_calls m B c' 12 w1 (HH'.out.ext E1.out) (by decide)).mono ?_
    rintro e w2 ⟨b, rfl, hgr, hb2⟩
    have E2 := Lib.hid (show Ext w w2 from E1.out.trans hb2)
    have G2 := Lib.hid hgr
    clear hgr hb2
    go_wp2
    go_ret
    exact ⟨b, rfl, fun h => ⟨G1.out (by first | rfl | trivial), G2.out h⟩, E2.out⟩
end Go.Proofs.YtmlfnidckfeebaaGreatDoor
