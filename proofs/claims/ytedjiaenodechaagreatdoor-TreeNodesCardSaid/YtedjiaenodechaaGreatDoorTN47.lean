/- Walks: chapter 15's examples. What is found in a tree is what the document's list has there: plain. Walks: TreeNodes. -/
import Derived.Test.YtedjiaenodechaaGreatDoorTN46
import Derived.Stop.BytesEq
import Derived.Test.YtedjiaenodechaaGreatDoorTN44
import Derived.Test.YtedjiaenodechaaGreatDoorTN41
import Derived.Deep.DeepCutAuto
namespace Go.Proofs.YtedjiaenodechaaGreatDoor
open Go.RowKit Go.Shelf
attribute [local go_sem] yUpon strOf_toList
theorem ex_vers {w : World} {g : Nat} (h : isBlk w g 82 (verC none 0 Sp.exV)) : Vers w (some ⟨g, 0, none⟩) [Sp.exV] := by
  refine ⟨[(none, 0, Sp.exV)], rfl, fun _ => ⟨g, 0, rfl, fun j u hj => ?_⟩, fun x hx => ?_⟩
  · rw [Nat.zero_add, h.cell j]
    simpa [versC] using hj
  · rw [List.mem_singleton.1 hx]
    exact ⟨Cells.nil _ _, by decide⟩
theorem dig_guard : Tryz.prog.eqGuardType Tryz.prog.depth 41 = false := by kernel_rfl
theorem dig_eq (x : Sp.Bs) (h : x.length = 32) (w : World) : (Op.equalIn 10000 41 (.agg (digC x)) (.agg (digC x))).run Tryz.prog w = .ok true w := by
  have := run_equalIn_bytes (P := Tryz.prog) w 9998 41 5 32 Tryz.underlying41 Tryz.underlying5 (fun w => Tryz.sizeOf5 w) x x h h
  rw [beq_self_eq_true] at this
  exact this
set_option maxRecDepth 100000 in
set_option maxHeartbeats 4000000 in
theorem awake15_calls (w : World) (K : KeysAt w 2) (K2 : KeysAt w 0) (M : MaxAt w) :
    Calls Tryz.prog 10 #[] w fun e w' => e = .returned (.bool true) ∧ Ext w w' := by
  have KK := Lib.hid K
  have KK2 := Lib.hid K2
  have MM := Lib.hid M
  have tok : True := trivial
  clear K K2 M
  go_enter Tryz.func10, Tryz.ntmps10
  go_wp2_with (have _t := tok; (with_reducible refine at_bslice rfl ?_); refine bslice_new rfl 31 82 _ rfl appVer (by decide) (verC none 0 Sp.exV) rfl rfl ?_; intro gv wv hgv hxv hbv; have XV := Lib.hid hxv; have BV := Lib.hid hbv; clear tok _t hgv hxv hbv)
  have SC := Lib.hid (set_calls none (.pointer none) Sp.exP [Sp.exV] (some ⟨gv, 0, none⟩) 1 wv (.inl ⟨rfl, rfl⟩) (fun t h => by cases h) (by decide) (ex_vers XV.out) (KK.out.ext BV.out) (max_kept MM.out BV.out))
  rw [Sp.ex_code] at SC
  refine SC.out.mono ?_
  rintro e w2 ⟨v2, rfl, h0, _, hb2⟩
  obtain ⟨o, ho⟩ : ∃ o, o = Sp.withO none (Sp.split Sp.exP) [Sp.exV] := ⟨_, rfl⟩
  have T2 := Lib.hid (show TreeAt w2 v2 o by rw [ho]; exact h0 rfl)
  have G2 := Lib.hid (show Sp.GoodO o by rw [ho]; exact Sp.setCode_good Sp.ex_code Sp.good_none)
  have E2 := Lib.hid (BV.out.trans hb2)
  have XF := Lib.hid (show (Sp.findS (o.getD .nil) [97]).isSome = true by rw [ho]; exact Sp.ex_find)
  have XL := Lib.hid (show (Sp.entriesO o).length = 1 by rw [ho]; exact Sp.ex_len)
  have XG := Lib.hid (show (Sp.nodeS (o.getD .nil) Sp.exP).1.length = 1 by rw [ho]; exact Sp.ex_get)
  have tokA : True := trivial
  clear h0 hb2 SC ho
  go_wp2_with fail
  refine (tnode_calls o v2 [97] w2 T2.out G2.out (KK.out.ext E2.out) (max_kept MM.out E2.out)).mono ?_
  rintro e w3 ⟨A3, c3, B3, c4, rfl, _, _, hb3⟩
  rw [XF.out]
  have E3 := Lib.hid (E2.out.trans hb3)
  have T3 := Lib.hid (T2.out.ext hb3)
  clear hb3
  go_wp2_with (have _t := tokA; ((with_reducible refine at_alloc (t := 34) rfl ?_); refine box_new rfl (cs := #[.slice none 0 0, .slice none 0 0]) (t := 34) (by first | (go_simp; done) | (go_simp; rfl)) ?_; intro g4 w4 hg4 hx4 hb4; have H4 := Lib.hid hx4; have B4 := Lib.hid (show Ext w3 w4 from hb4); have GG4 := Lib.hid hg4; have k0 := (hx4.cell 0).trans rfl; have k1 := (hx4.cell 1).trans rfl; have k2 := hx4.frozen 0; have k3 := hx4.frozen 1; clear tokA _t hx4 hb4 hg4))
  obtain ⟨w5, hw5⟩ : ∃ w5, w5 = (w4.setCell ⟨g4, 0, none⟩ (.slice A3 (Sp.nodeS (o.getD .nil) [97]).1.length c3)).setCell ⟨g4, 1, none⟩ (.slice B3 (Sp.nodeS (o.getD .nil) [97]).2.length c4) := ⟨_, rfl⟩
  have B5 := Lib.hid (show Ext w3 w5 by rw [hw5]; exact (B4.out.setCell GG4.out _).setCell GG4.out _)
  rw [← hw5]
  clear hw5 k0 k1 k2 k3
  have E5 := Lib.hid (E3.out.trans B5.out)
  refine (len_calls o v2 w5 (T3.out.ext B5.out) (KK.out.ext E5.out)).mono ?_
  rintro e w6 ⟨rfl, hb6⟩
  rw [XL.out]
  have T6 := Lib.hid (T3.out.ext (B5.out.trans hb6))
  have E6 := Lib.hid (E5.out.trans hb6)
  clear hb6
  go_wp2_with fail
  refine (troot_calls none (.pointer none) w6 (.inl ⟨rfl, rfl⟩) (KK.out.ext E6.out)).mono ?_
  rintro e w7 ⟨rfl, hb7⟩
  have T7 := Lib.hid (T6.out.ext hb7)
  have E7 := Lib.hid (E6.out.trans hb7)
  rw [show Sp.nsum (Sp.nodeT ((none : Option Sp.T).getD .nil)) = Sp.sha [0, 0] from Sp.nil_sum]
  clear hb7
  go_wp2_with fail
  refine (rsha_calls [0, 0] w7 (by decide) (KK2.out.ext E7.out)).mono ?_
  rintro e w8 ⟨rfl, hb8⟩
  have T8 := Lib.hid (T7.out.ext hb8)
  have E8 := Lib.hid (E7.out.trans hb8)
  have hq := fun W => dig_eq (Sp.sha [0, 0]) (Sp.sha_len _) W
  have hg := dig_guard
  clear hb8
  rw [show digV (Sp.sha [0, 0]) = .agg (digC (Sp.sha [0, 0])) from rfl]
  obtain ⟨ds, hds⟩ : ∃ ds, ds = digC (Sp.sha [0, 0]) := ⟨_, rfl⟩
  rw [← hds] at hq ⊢
  clear hds
  go_wp2_with fail
  refine (len_calls none (.pointer none) w8 (.inl ⟨rfl, rfl⟩) (KK.out.ext E8.out)).mono ?_
  rintro e w9 ⟨rfl, hb9⟩
  rw [show (Sp.entriesO none).length = 0 from rfl]
  have T9 := Lib.hid (T8.out.ext hb9)
  have E9 := Lib.hid (E8.out.trans hb9)
  clear hb9
  go_wp2_with fail
  refine (tget_calls o v2 Sp.exP w9 T9.out G2.out (KK.out.ext E9.out) (max_kept MM.out E9.out)).mono ?_
  rintro e w10 ⟨A5, c5, rfl, _, hb10⟩
  rw [XG.out]
  have E10 := Lib.hid (E9.out.trans hb10)
  clear hb10
  go_wp2
  go_ret
  exact ⟨rfl, E10.out⟩
end Go.Proofs.YtedjiaenodechaaGreatDoor
namespace Go.Proofs.YtedjiaenodechaaGreatDoor
open Go.RowKit
section
variable {P : Program} {ops : Array Oper} {T : World → Prop}
theorem floatT_no' {a : Act} {o : Oper} {K : Act → Prop} (hw : Region.wanted o (yielded ops a.tmps) = false) (h : K (a.put o.dst undef)) : ∃ v, YieldsT P ops T o v a ∧ K (a.put o.dst v) := ⟨undef, .inr ⟨hw, rfl⟩, h⟩
end
namespace Sp
theorem findT_small : ∀ (d : List Bs) (t s : T), findT t d = some s → sizeT s ≤ sizeT t
  | [], t, s, e => by cases e; exact Nat.le_refl _
  | n :: d, t, s, e => by
    rw [findT] at e
    cases hk : kid t.kids n with
    | none => rw [hk] at e; cases e
    | some u =>
      rw [hk] at e
      have h1 := kid_size t.kids n u hk
      have h2 := sizeT_n0 t
      have h3 := findT_small d u s e
      omega
theorem find_both {o : Option T} {m : List DE} (he : toP m = entriesO o) (ho : GoodO o) (hm : GoodM m) {d : Bs} {s : T} (h : findS (o.getD .nil) d = some s) :
    Dir d ∧ Ok s ∧ sizeT s ≤ 128 ∧ subs (toP m) (parts d) = entries s := by
  have hf : Dir d ∧ findT (o.getD .nil) (parts d) = some s := by
    unfold findS at h
    by_cases h0 : d = []
    · rw [if_pos h0] at h
      subst h0
      exact ⟨.inl rfl, h⟩
    · rw [if_neg h0] at h
      by_cases h1 : parts d = []
      · rw [if_pos h1] at h; cases h
      · rw [if_neg h1] at h
        exact ⟨.inr (check_of_parts h1), h⟩
  obtain ⟨h1, h2⟩ := at_both he ho hm d hf.1
  refine ⟨hf.1, (h2 s hf.2).1, ?_, by rw [h1, hf.2]; rfl⟩
  have h3 := findT_small _ _ _ hf.2
  rw [getD_size] at h3
  exact Nat.le_trans h3 ho.2
end Sp
end Go.Proofs.YtedjiaenodechaaGreatDoor
namespace Go.Proofs.YtedjiaenodechaaGreatDoor
open Go.RowKit Go.Shelf
attribute [local go_sem] yUpon strOf_toList
set_option maxRecDepth 100000 in
set_option maxHeartbeats 4000000 in
theorem treeNodes_calls (l : List Sp.DE) (A : Option Addr) (cap : Nat) (d : Sp.Bs) (w : World) (hE : EntsAt w A l) (K : KeysAt w 2) (K2 : KeysAt w 0) (M : MaxAt w) :
    Calls Tryz.prog 3 #[.slice A l.length cap, .string (strOf d)] w fun e w' => e = .returned (.bool true) ∧ Ext w w' := by
  have KK := Lib.hid K
  have KK2 := Lib.hid K2
  have MM := Lib.hid M
  have HE := Lib.hid hE
  clear K K2 M hE
  go_enter Tryz.func3, Tryz.ntmps3
  go_wp2_with fail
  refine (great15_calls l A cap 20 w HE.out (by decide)).mono ?_
  rintro e w1 ⟨b, rfl, hgr, hb1⟩
  have B1 := Lib.hid (show Ext w w1 from hb1)
  clear hb1
  cases b with
  | true =>
    go_wp2_with fail
    refine (awake15_calls w1 (KK.out.ext B1.out) (KK2.out.ext B1.out) (max_kept MM.out B1.out)).mono ?_
    rintro e w2 ⟨rfl, hb2⟩
    go_wp2
    go_ret
    exact ⟨rfl, B1.out.trans hb2⟩
  | false =>
    obtain ⟨hl, hp⟩ := hgr rfl
    by_cases hd : 200 < (strOf d).size
    · have c1 : (200 : Int) < ((strOf d).size : Int) := by omega
      go_wp2_with fail
      refine (awake15_calls w1 (KK.out.ext B1.out) (KK2.out.ext B1.out) (max_kept MM.out B1.out)).mono ?_
      rintro e w2 ⟨rfl, hb2⟩
      go_wp2
      go_ret
      exact ⟨rfl, B1.out.trans hb2⟩
    · have c1 : ¬ (200 : Int) < ((strOf d).size : Int) := by omega
      have DL := Lib.hid (show d.length ≤ 200 by rw [strOf_size] at hd; omega)
      go_wp2_with fail
      refine (of_calls l A cap w1 (HE.out.ext B1.out) (by omega) (KK.out.ext B1.out) (max_kept MM.out B1.out)).mono ?_
      rintro e w2 ⟨v2, rfl, ht2, hb2⟩
      have T2 := Lib.hid ht2
      have B2 := Lib.hid (B1.out.trans hb2)
      clear ht2 hb2
      go_wp2_with fail
      refine (rof_calls l A cap w2 (HE.out.ext B2.out) (by omega) (fun e he => Nat.le_trans (hp e he) (by decide))).mono ?_
      rintro e w3 ⟨B3, c3, rfl, he3, hb3⟩
      have E3 := Lib.hid he3
      have T3 := Lib.hid (T2.out.ext hb3)
      have B3' := Lib.hid (B2.out.trans hb3)
      clear he3 hb3
      have GO := Lib.hid (Sp.ofT_good l none Sp.good_none)
      have GM := Lib.hid (Sp.rof_good l [] Sp.goodM_nil)
      have HEQ := Lib.hid (Sp.of_both l none [] rfl Sp.good_none).2
      obtain ⟨o, ho⟩ : ∃ o, o = (Sp.ofT none l).1 := ⟨_, rfl⟩
      obtain ⟨m, hm⟩ : ∃ m, m = (Sp.rof [] l).1 := ⟨_, rfl⟩
      rw [← ho] at T3 GO HEQ
      rw [← hm] at E3 GM HEQ ⊢
      clear ho hm T2
      have TB := Lib.hid (Sp.there_both HEQ.out GO.out GM.out d)
      have tokA : True := trivial
      go_wp2_with fail
      refine (tnode_calls o v2 d w3 T3.out GO.out (KK.out.ext B3'.out) (max_kept MM.out B3'.out)).mono ?_
      rintro e w4 ⟨A4, c4, B4, c5, rfl, hv4, hk4, hb4⟩
      have V4 := Lib.hid hv4
      have K4 := Lib.hid hk4
      have E4 := Lib.hid (E3.out.ext hb4)
      have B4' := Lib.hid (B3'.out.trans hb4)
      obtain ⟨bb, hbb⟩ : ∃ bb, bb = (Sp.findS (o.getD .nil) d).isSome := ⟨_, rfl⟩
      rw [← hbb] at TB ⊢
      have HBB := Lib.hid hbb
      clear hv4 hk4 hb4 hbb
      go_wp2_with (have _t := tokA; ((with_reducible refine at_alloc (t := 34) rfl ?_); refine box_new rfl (cs := #[.slice none 0 0, .slice none 0 0]) (t := 34) (by first | (go_simp; done) | (go_simp; rfl)) ?_; intro g5 w5 hg5 hx5 hb5; have H5 := Lib.hid hx5; have B5 := Lib.hid (show Ext w4 w5 from hb5); have GG5 := Lib.hid hg5; have k0 := (hx5.cell 0).trans rfl; have k1 := (hx5.cell 1).trans rfl; have k2 := hx5.frozen 0; have k3 := hx5.frozen 1; clear tokA _t hx5 hb5 hg5))
      obtain ⟨w6, hw6⟩ : ∃ w6, w6 = (w5.setCell ⟨g5, 0, none⟩ (.slice A4 (Sp.nodeS (o.getD .nil) d).1.length c4)).setCell ⟨g5, 1, none⟩ (.slice B4 (Sp.nodeS (o.getD .nil) d).2.length c5) := ⟨_, rfl⟩
      have X6 := Lib.hid (show isBlk w6 g5 34 #[.slice A4 (Sp.nodeS (o.getD .nil) d).1.length c4, .slice B4 (Sp.nodeS (o.getD .nil) d).2.length c5] by rw [hw6]; exact (H5.out.put 0 _ rfl).put 1 _ rfl)
      have B6 := Lib.hid (show Ext w4 w6 by rw [hw6]; exact (B5.out.setCell GG5.out _).setCell GG5.out _)
      rw [← hw6]
      clear hw6 k0 k1 k2 k3
      refine (rthere_calls m B3 c3 d w6 (E4.out.ext B6.out) (Nat.le_trans GM.out.2 (by decide)) (Sp.good_len GM.out) (Nat.le_trans DL.out (by decide))).mono ?_
      rintro e w7 ⟨rfl, hb7⟩
      rw [TB.out]
      have B7 := Lib.hid (show Ext w4 w7 from B6.out.trans hb7)
      have X7 := Lib.hid (X6.out.below hb7)
      have E7 := Lib.hid (B4'.out.trans B7.out)
      have EM := Lib.hid (E4.out.ext B7.out)
      clear hb7
      have f0 := (X7.out.cell 0).trans rfl
      have f1 := (X7.out.cell 1).trans rfl
      have AW := Lib.hid fun W (e : Ext w7 W) => awake15_calls W (KK.out.ext (E7.out.trans e)) (KK2.out.ext (E7.out.trans e)) (max_kept MM.out (E7.out.trans e))
      cases bb with
      | false =>
        have N0 : Sp.nodeS (o.getD .nil) d = ([], []) := by
          rw [Sp.nodeS]
          cases hf : Sp.findS (o.getD .nil) d with
          | none => rfl
          | some s => have := HBB.out; rw [hf] at this; cases this
        have X8 := Lib.hid (show isBlk w7 g5 34 #[.slice A4 0 c4, .slice B4 0 c5] by have := X7.out; rw [N0] at this; exact this)
        clear f0 f1 N0 HBB
        go_wp2_with fail
        refine wp_region_det (fun W => Ext w7 W) (by kernel_rfl) (by kernel_rfl) (Below.refl _ _).drew ?_
        repeat (first
          | (refine det_step (fun K hK => ?_)
             apply Exists.intro
             refine ⟨Or.inl ⟨rfl, fun W hS => ?_⟩, ?_⟩
             · replace hS : Ext w7 W := hS
               have z := X8.out.below hS; have f0 := (z.cell 0).trans rfl; have f1 := (z.cell 1).trans rfl
               go_simp
               first
               | exact rfl
               | exact ⟨rfl, hS⟩
               | (refine (AW.out W hS).mono ?_; rintro e w9 ⟨rfl, hb9⟩; exact ⟨rfl, hS.trans hb9⟩)
             go_simp
             refine hK _ ?_
             clear hK K)
          | (refine det_step (fun K hK => ?_); refine det_no' rfl ?_; go_simp; refine hK _ ?_; clear hK K))
        refine det_nil ?_
        intro W9 hS
        replace hS : Ext _ W9 := hS
        go_wp2
        go_ret
        exact ⟨rfl, E7.out.trans hS⟩
      | true =>
        obtain ⟨s, hs⟩ : ∃ s, Sp.findS (o.getD .nil) d = some s := by
          cases hf : Sp.findS (o.getD .nil) d with
          | none => have := HBB.out; rw [hf] at this; cases this
          | some s => exact ⟨s, rfl⟩
        obtain ⟨hdir, hok, hsz, hsub⟩ := Sp.find_both HEQ.out GO.out GM.out hs
        have NS : Sp.nodeS (o.getD .nil) d = Sp.nodeT s := by rw [Sp.nodeS, hs]
        have NL := Lib.hid (nodeT_leaf s)
        have NK := Lib.hid (show (Sp.nodeT s).2.length = s.kids.length by rw [nodeT_kids, List.length_map])
        have X8 := Lib.hid (show isBlk w7 g5 34 #[.slice A4 (Sp.nodeT s).1.length c4, .slice B4 (Sp.nodeT s).2.length c5] by have := X7.out; rw [NS] at this; exact this)
        have V8 := Lib.hid (show Vers w7 A4 (Sp.nodeT s).1 by have := V4.out.ext B7.out; rw [NS] at this; exact this)
        have K8 := Lib.hid (show Kids w7 B4 (Sp.nodeT s).2 by have := K4.out.ext B7.out; rw [NS] at this; exact this)
        have SZ := Lib.hid (show (Sp.nodeT s).1.length ≤ 1000000 ∧ (Sp.nodeT s).2.length ≤ 1000000 by
          have h1 := Sp.ok_fit hok (Nat.le_trans hsz (by decide))
          have h2 := Sp.kids_size s.kids (ok_rise hok).2
          have h3 := Sp.sizeT_n0 s
          rw [NL.out, NK.out]
          exact ⟨Nat.le_trans h1.1 (by decide), by omega⟩)
        have RN := Lib.hid (show ∀ W, Ext w7 W → Calls Tryz.prog 16 #[.slice B3 m.length c3, .string (strOf d)] W fun e w' => ∃ A2 c2 B2 c3, e = .returned (nodeV A2 (Sp.nodeT s).1.length c2 B2 (Sp.nodeT s).2.length c3) ∧ Vers w' A2 (Sp.nodeT s).1 ∧ Kids w' B2 (Sp.nodeT s).2 ∧ Ext W w' from fun W e => by
          have := rnode_calls m GM.out B3 c3 5 d s W (by omega) hdir hok (Nat.le_trans hsz (by decide)) hsub (EM.out.ext e) (KK2.out.ext (E7.out.trans e))
          rw [← NL.out, ← NK.out] at this
          exact this)
        clear f0 f1 NS hs hdir hok hsz hsub HBB
        go_wp2_with fail
        refine wp_region_seqT (fun W => Ext w7 W) 18 25 (by kernel_rfl) (by kernel_rfl) (Ext.refl w7).drew ?_
        simp only [List.take_succ_cons, List.take_zero, List.drop_succ_cons, List.drop_zero]
        repeat (first
          | (refine floatT_step (fun K hK => ?_)
             apply Exists.intro
             refine ⟨Or.inl ⟨rfl, fun W hS => ?_⟩, ?_⟩
             · have hz : Ext w7 W := hS; have z := X8.out.below hz; have f0 := (z.cell 0).trans rfl; have f1 := (z.cell 1).trans rfl
               go_simp
               first | done | exact rfl
             go_simp
             refine hK _ ?_
             clear hK K)
          | (refine floatT_step (fun K hK => ?_); refine floatT_no' rfl ?_; go_simp; refine hK _ ?_; clear hK K))
        refine floatT_nil ?_
        refine seqT_succ (n := 6) (fun Q' hQ' => ?_)
        go_wp2_with fail
        refine (RN.out w7.drew (Ext.refl _).drew).mono ?_
        rintro e w8 ⟨A8, c8, B8, c9, rfl, hv8, hk8, hb8⟩
        have V9 := Lib.hid hv8
        have K9 := Lib.hid hk8
        have B8' := Lib.hid (show Ext w7 w8 from Below.trans (Below.refl _ _).drew hb8)
        clear hv8 hk8 hb8
        go_wp2
        refine hQ' _ _ B8'.out ?_
        clear hQ'
        refine seqT_succ (n := 5) (fun Q' hQ' => ?_)
        go_wp2_with fail
        refine (nsame_calls (Sp.nodeT s) A4 B4 A8 B8 c4 c5 c8 c9 w8 (V8.out.ext B8'.out) (K8.out.ext B8'.out) V9.out K9.out SZ.out.1 SZ.out.2).mono ?_
        rintro e w9 ⟨rfl, hb9⟩
        have B9 := Lib.hid (show Ext w7 w9 from B8'.out.trans hb9)
        clear hb9
        go_wp2
        refine hQ' _ _ B9.out ?_
        clear hQ'
        refine seqT_succ (n := 4) (fun Q' hQ' => ?_)
        go_wp2_with fail
        refine hQ' _ _ B9.out ?_
        clear hQ'
        refine seqT_succ (n := 3) (fun Q' hQ' => ?_)
        go_wp2_with fail
        refine hQ' _ _ B9.out ?_
        clear hQ'
        refine seqT_succ (n := 2) (fun Q' hQ' => ?_)
        go_wp2_with fail
        refine hQ' _ _ B9.out ?_
        clear hQ'
        refine seqT_succ (n := 1) (fun Q' hQ' => ?_)
        go_wp2_with fail
        refine (AW.out w9 B9.out).mono ?_
        rintro e w10 ⟨rfl, hb10⟩
        have B10 := Lib.hid (show Ext w7 w10 from B9.out.trans hb10)
        clear hb10
        go_wp2
        refine hQ' _ _ B10.out ?_
        clear hQ'
        refine seqT_succ (n := 0) (fun Q' hQ' => ?_)
        go_wp2_with fail
        refine hQ' _ _ B10.out ?_
        clear hQ'
        refine seqT_zero ?_
        go_wp2_with fail
        refine ⟨rfl, ?_⟩
        go_wp2
        go_ret
        exact ⟨rfl, E7.out.trans B10.out⟩
theorem treeNodes_bs (l : List Sp.DE) (A : Option Addr) (cap : Nat) (d : ByteArray) (w : World) (hE : EntsAt w A l) (K : KeysAt w 2) (K2 : KeysAt w 0) (M : MaxAt w) :
    Calls Tryz.prog 3 #[.slice A l.length cap, .string d] w fun e w' => e = .returned (.bool true) ∧ Ext w w' := by
  rw [← strOf_self d]
  exact treeNodes_calls l A cap d.data.toList w hE K K2 M
end Go.Proofs.YtedjiaenodechaaGreatDoor
