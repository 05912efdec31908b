/- What '==' says of a kid and itself. Walks: whether leaves, and entries, are too much to be asked. The examples of chapter 15: plain. Walks: chapter 15's examples. Walks: pins: those of a list of which something is so. -/
import Derived.Test.YtedjiaenodechaaGreatDoorPP41
import Derived.Test.YtedjiaenodechaaGreatDoorPP09
import Derived.Stop.BytesEq
import Derived.Test.YtedjiaenodechaaGreatDoorPP40
import Derived.Deep.DeepCutAuto
namespace Go.Proofs.YtedjiaenodechaaGreatDoor
open Go.RowKit
theorem kid_guard : Tryz.prog.eqGuardType Tryz.prog.depth 95 = false := by kernel_rfl
theorem keq_in (x : Sp.Kid) (h : x.2.length = 32) (w : World) : (Op.equalIn 10000 95 (.agg (kidL x).toArray) (.agg (kidL x).toArray)).run Tryz.prog w = .ok true w := by
  have hS : Tryz.prog.underlying 95 = some (.struct (Tryz.prog.fieldsOf 95)) := by kernel_rfl
  have hp : Tryz.prog.stoodInHeld 95 = false := by kernel_rfl
  have hb : (Op.equalIn 9999 41 (.agg (x.2.map byteV).toArray) (.agg (x.2.map byteV).toArray)).run Tryz.prog w = .ok true w := by
    have := run_equalIn_bytes (P := Tryz.prog) w 9997 41 5 32 Tryz.underlying41 Tryz.underlying5 (fun w => Tryz.sizeOf5 w) x.2 x.2 h h
    rw [beq_self_eq_true] at this
    exact this
  rw [show (10000 : Nat) = 9999 + 1 from rfl, run_equalIn_agg w 9999 95 _ _ hS hp]
  simp only [Program.fieldsOf, Tryz.underlying95]
  have k0 : (kidL x)[0]? = some (.string (strOf x.1)) := rfl
  have ht : List.take 32 (kidL x).tail = x.2.map byteV := by rw [show (kidL x).tail = x.2.map byteV from rfl, List.take_of_length_le (by simp [h])]
  go_simp
open Go.Shelf
attribute [local go_sem] yUpon
set_option maxRecDepth 100000 in
set_option maxHeartbeats 4000000 in
/-- A node is the same as one that has the same. -/
theorem nsame_calls (n : Sp.Node) (A B A' B' : Option Addr) (c c' d d' : Nat) (w : World) (hV : Vers w A n.1) (hK : Kids w B n.2) (hV' : Vers w A' n.1) (hK' : Kids w B' n.2) (hl : n.1.length ≤ 1000000) (hk : n.2.length ≤ 1000000) :
    Calls Tryz.prog 15 #[nodeV A n.1.length c B n.2.length c', nodeV A' n.1.length d B' n.2.length d'] w fun e w' => e = .returned (.bool true) ∧ Ext w w' := by
  have HV := Lib.hid hV
  have HK := Lib.hid hK
  have HV' := Lib.hid hV'
  have HK' := Lib.hid hK'
  have tok1 : True := trivial
  have tok2 : True := trivial
  clear hV hK hV' hK'
  go_enter Tryz.func15, Tryz.ntmps15
  go_wp2_with (first
    | (have _t := tok1; ((with_reducible refine at_box (t := 34) rfl ?_); refine box_new rfl (cs := #[.slice A n.1.length c, .slice B n.2.length c']) (t := 34) (by first | (go_simp; done) | (go_simp; rfl)) ?_; intro g2 w2 hg2 hx2 hb2; have X2 := Lib.hid hx2; have B2 := Lib.hid (show Ext w w2 from hb2); clear tok1 _t hx2 hb2 hg2))
    | (have _t := tok2; ((with_reducible refine at_box (t := 34) rfl ?_); refine box_new rfl (cs := #[.slice A' n.1.length d, .slice B' n.2.length d']) (t := 34) (by first | (go_simp; done) | (go_simp; rfl)) ?_; intro g3 w3 hg3 hx3 hb3; have X3 := Lib.hid hx3; have B3 := Lib.hid (show Ext w w3 from B2.out.trans hb3); have X23 := Lib.hid (X2.out.below hb3); have f0 := (X23.out.cell 0).trans rfl; have f1 := (X23.out.cell 1).trans rfl; have f2 := (hx3.cell 0).trans rfl; have f3 := (hx3.cell 1).trans rfl; clear tok2 _t hx3 hb3 hg3)))
  refine (rsame_calls n.1 n.1 A A' c d w3 (HV.out.ext B3.out) (HV'.out.ext B3.out) (by omega)).mono ?_
  rintro e w4 ⟨rfl, hb4⟩
  rw [decide_eq_true (rfl : n.1 = n.1)]
  have B4 := Lib.hid (show Ext w3 w4 from hb4)
  clear hb4 f0 f1 f2 f3
  go_wp2
  go_loopw [5] (fun v5 wr => ∃ k : Nat, k ≤ n.2.length ∧ v5 = .int .i64 k ∧ Ext w4 wr) (fun v5 _ => n.2.length - (intOf v5).toNat)
  case atStart => exact ⟨0, Nat.zero_le _, rfl, Ext.refl _⟩
  case round =>
    obtain ⟨k, hk2, rfl, hb⟩ := hrel
    have HB := Lib.hid hb
    have EW := Lib.hid (B3.out.trans (B4.out.trans hb))
    have Y2 := Lib.hid (X23.out.below (B4.out.trans hb))
    have Y3 := Lib.hid (X3.out.below (B4.out.trans hb))
    have f1 := (Y2.out.cell 1).trans rfl
    have f3 := (Y3.out.cell 1).trans rfl
    clear hb
    by_cases hlt : k < n.2.length
    · obtain ⟨a1, o1, rfl, hr1⟩ := HK.out.at (by omega)
      obtain ⟨a2, o2, rfl, hr2⟩ := HK'.out.at (by omega)
      have r1 := hr1 k hlt
      have r2 := hr2 k hlt
      obtain ⟨x, hx⟩ : ∃ x, x = n.2[k] := ⟨_, rfl⟩
      have X32 := Lib.hid (show x.2.length = 32 by rw [hx]; exact (HK.out.2 _ (List.getElem_mem hlt)).1)
      rw [← hx] at r1 r2
      obtain ⟨ks, hks⟩ : ∃ ks, ks = kidL x := ⟨_, rfl⟩
      have KL := Lib.hid (show ks.length = 33 by rw [hks, kidL_len _ X32.out])
      have hq := fun W => keq_in x X32.out W
      rw [← hks] at r1 r2 hq
      have hg := kid_guard
      have R1 := Lib.hid (show wr.drew.rangeAt a1 (o1 + k * 33) ks from fun j v hj => EW.out.cell (r1 j v hj))
      have R2 := Lib.hid (show wr.drew.rangeAt a2 (o2 + k * 33) ks from fun j v hj => EW.out.cell (r2 j v hj))
      have F1 := Lib.hid f1
      have F3 := Lib.hid f3
      have b1 : (k : Int) < (n.2.length : Int) := by omega
      clear hr1 hr2 hx hks r1 r2
      go_wp2_with fail
      refine wp_region_det (fun W => W = wr.drew) (by kernel_rfl) (by kernel_rfl) rfl ?_
      repeat (first
        | (refine det_step (fun K hK => ?_); (first | (refine det_load_mid rfl 95 (.tmp 31) rfl a1 (o1 + k * 33) rfl ks _ (fun W hS => by rw [show W = wr.drew from hS]; exact R1.out) Tryz.underlying95 rfl (by rw [KL.out]; kernel_rfl) ?_) | (refine det_load_mid rfl 95 (.tmp 36) rfl a2 (o2 + k * 33) rfl ks _ (fun W hS => by rw [show W = wr.drew from hS]; exact R2.out) Tryz.underlying95 rfl (by rw [KL.out]; kernel_rfl) ?_)); go_simp; refine hK _ ?_; clear hK K)
        | (refine det_step (fun K hK => ?_)
           apply Exists.intro
           refine ⟨Or.inl ⟨rfl, fun W hS => ?_⟩, ?_⟩
           · have hz : W = wr.drew := hS; subst hz; have f1 := (show wr.drew.cell? _ = _ from F1.out); have f3 := (show wr.drew.cell? _ = _ from F3.out)
             go_simp
             first
             | exact rfl
             | exact ⟨rfl, hS⟩
             | (fail)
           go_simp
           refine hK _ ?_
           clear hK K)
        | (refine det_step (fun K hK => ?_); refine det_no' rfl ?_; go_simp; refine hK _ ?_; clear hK K))
      refine det_nil ?_
      rintro W rfl
      go_wp2
      refine ⟨⟨k + 1, by omega, by go_num, HB.out.drew⟩, by simp [intOf]; omega⟩
    · obtain rfl : k = n.2.length := by omega
      go_wp2
      go_ret
      exact ⟨rfl, EW.out⟩
end Go.Proofs.YtedjiaenodechaaGreatDoor
namespace Go.Proofs.YtedjiaenodechaaGreatDoor
open Go.RowKit Go.Shelf
attribute [local go_sem] yUpon strOf_toList
set_option maxRecDepth 100000 in
set_option maxHeartbeats 4000000 in
/-- One leaf. -/
theorem great7_calls (vs : List Sp.Ver) (A : Option Addr) (cap gb : Nat) (w : World) (hx : isBlk w gb 31 #[.slice A vs.length cap]) (h : Vers w A vs) :
    Calls Tryz.prog 35 #[.slice (some ⟨gb, 0, none⟩) 1 1] w fun e w' => ∃ b : Bool, e = .returned (.bool b) ∧ w = w' := by
  have HV := Lib.hid h
  have f0 := (hx.cell 0).trans rfl
  clear h hx
  go_enter Tryz.func35, Tryz.ntmps35
  go_wp2
  go_loopw [3] (fun v3 wr => ∃ k : Nat, k ≤ 1 ∧ v3 = .int .i64 k ∧ w = wr) (fun v3 _ => 1 - (intOf v3).toNat)
  case atStart => exact ⟨0, Nat.zero_le _, rfl, rfl⟩
  case round =>
    obtain ⟨k, hk, rfl, rfl⟩ := hrel
    by_cases hlt : k < 1
    · obtain rfl : k = 0 := by omega
      by_cases h70 : 70 < vs.length
      · have c1 : (70 : Int) < (vs.length : Int) := by omega
        go_wp2
        go_ret
        exact ⟨true, rfl, rfl⟩
      · have c1 : ¬ (70 : Int) < (vs.length : Int) := by omega
        have c2 : vs.length ≤ 70 := by omega
        go_wp2
        go_loopw [4, 5] (fun v4 v5 wr => ∃ (j n : Nat), j ≤ vs.length ∧ n ≤ 400 ∧ v4 = .int .i64 n ∧ v5 = .int .i64 j ∧ w = wr) (fun _ v5 _ => vs.length - (intOf v5).toNat)
        case atStart => exact ⟨0, 0, Nat.zero_le _, Nat.zero_le _, rfl, rfl, rfl⟩
        case round =>
          obtain ⟨j, n, hj, hn, rfl, rfl, rfl⟩ := hrel
          by_cases hjl : j < vs.length
          · obtain ⟨a, o, rfl, hat⟩ := HV.out.at (by omega)
            obtain ⟨A', cap', hv, hp⟩ := hat j hjl
            obtain ⟨x, hxx⟩ : ∃ x, x = vs[j] := ⟨_, rfl⟩
            rw [← hxx] at hv hp
            have g2 := hv.c2
            have g4 := hv.c4
            have hpl := hp.2
            obtain ⟨q, hq⟩ : ∃ q, q = x.past.length := ⟨_, rfl⟩
            rw [← hq] at g2 hpl
            obtain ⟨n2, hn2⟩ : ∃ n2, n2 = n + q := ⟨_, rfl⟩
            have w1 : IntKind.i64.wrap ((n : Int) + (q : Int)) = (n2 : Int) := by rw [IntKind.wrap_i64]; omega
            have b1 : (j : Int) < (vs.length : Int) := by omega
            clear hat hv hp hxx hq hn2
            by_cases h4 : 400 < n2
            · have e1 : (400 : Int) < (n2 : Int) := by omega
              go_wp2
              go_ret
              exact ⟨true, rfl, rfl⟩
            · have e1 : ¬ (400 : Int) < (n2 : Int) := by omega
              have e2 : n2 ≤ 400 := by omega
              by_cases h2 : 200 < (strOf x.data).size
              · have e3 : (200 : Int) < ((strOf x.data).size : Int) := by omega
                go_wp2
                go_ret
                first
                  | exact ⟨true, rfl, rfl⟩
                  | exact .inr rfl
                  | exact .inr ⟨rfl, rfl⟩
                  | (simp; done)
              · have e3 : ¬ (200 : Int) < ((strOf x.data).size : Int) := by omega
                go_wp2
                go_roundw
                case rel => exact ⟨j + 1, n2, by omega, e2, rfl, by go_num, by first | rfl | trivial⟩
                case measure => simp [intOf]; omega
          · obtain rfl : j = vs.length := by omega
            go_wp2
            go_roundw
            case rel => exact ⟨1, Nat.le_refl _, by go_num, by first | rfl | trivial⟩
            case measure => simp [intOf]
    · obtain rfl : k = 1 := by omega
      go_wp2
      go_ret
      exact ⟨false, rfl, rfl⟩
set_option maxRecDepth 100000 in
set_option maxHeartbeats 4000000 in
/-- Entries: what holds if they are not too much. -/
theorem great15_calls (l : List Sp.DE) (A : Option Addr) (cap most : Nat) (w : World) (h : EntsAt w A l) (hmost : most ≤ 1000) :
    Calls Tryz.prog 9 #[.slice A l.length cap, .int .i64 most] w fun e w' => ∃ b : Bool, e = .returned (.bool b) ∧ (b = false → l.length ≤ most ∧ ∀ e ∈ l, e.1.length ≤ 200) ∧ Ext w w' := by
  have HH := Lib.hid h
  clear h
  go_enter Tryz.func9, Tryz.ntmps9
  by_cases hm : most < l.length
  · have c1 : (most : Int) < (l.length : Int) := by omega
    go_wp2
    go_ret
    exact ⟨true, rfl, (fun h => by cases h), Ext.refl _⟩
  · have c1 : ¬ (most : Int) < (l.length : Int) := by omega
    have c0 : l.length ≤ most := by omega
    have CM := Lib.hid c0
    have cl : l.length ≤ 1000 := by omega
    go_wp2
    go_loopw [5] (fun v5 wr => ∃ k : Nat, k ≤ l.length ∧ v5 = .int .i64 k ∧ (∀ i (h : i < l.length), i < k → (l[i]).1.length ≤ 200) ∧ Ext w wr) (fun v5 _ => l.length - (intOf v5).toNat)
    case atStart => exact ⟨0, Nat.zero_le _, rfl, fun i h h0 => absurd h0 (Nat.not_lt_zero i), Ext.refl _⟩
    case round =>
      obtain ⟨k, hk, rfl, ha, hb⟩ := hrel
      have HA := Lib.hid ha
      have HB := Lib.hid hb
      clear ha
      by_cases hlt : k < l.length
      · obtain ⟨eb, eo, rfl, he⟩ := HH.out.at (by omega)
        obtain ⟨Av, cv, e0, e1, hv⟩ := he k hlt
        have e0' := hb.cell e0
        have e1' := hb.cell e1
        obtain ⟨x, hx⟩ : ∃ x, x = l[k] := ⟨_, rfl⟩
        rw [← hx] at e0' e1' hv
        have HX := Lib.hid hx
        have HV := Lib.hid hv
        have b1 : (k : Int) < (l.length : Int) := by omega
        clear he e0 e1 hx hv hb
        by_cases h2 : 200 < (strOf x.1).size
        · have d1 : (200 : Int) < ((strOf x.1).size : Int) := by omega
          go_wp2
          go_ret
          exact ⟨true, rfl, (fun h => by cases h), HB.out⟩
        · have d1 : ¬ (200 : Int) < ((strOf x.1).size : Int) := by omega
          have P200 := Lib.hid (show x.1.length ≤ 200 by rw [strOf_size] at h2; omega)
          go_wp2_with fail
          have GC := great7_calls x.2 Av cv wr.heap.size (wr.alloc (.cells #[.slice Av x.2.length cv] 31)) (heap_alloc_new _ _) (HV.out.ext (HB.out.trans (Ext.alloc _ _)))
          refine GC.mono ?_
          rintro e w1 ⟨b, rfl, hw1⟩
          have B1 := Lib.hid (show Ext w w1 by rw [← hw1]; exact HB.out.trans (Ext.alloc _ _))
          clear hw1 GC
          cases b with
          | true =>
            go_wp2
            go_ret
            exact ⟨true, rfl, (fun h => by cases h), B1.out⟩
          | false =>
            go_wp2
            refine ⟨⟨k + 1, by omega, by go_num, fun i hi h1 => ?_, B1.out⟩, by simp [intOf]; omega⟩
            by_cases hik : i = k
            · subst hik
              have := P200.out
              rw [HX.out] at this
              exact this
            · exact HA.out i hi (by omega)
      · obtain rfl : k = l.length := by omega
        go_wp2
        go_ret
        exact ⟨false, rfl, fun _ => ⟨CM.out, fun e he => by
          obtain ⟨i, hi, rfl⟩ := List.getElem_of_mem he
          exact HA.out i hi hi⟩, HB.out⟩
end Go.Proofs.YtedjiaenodechaaGreatDoor
namespace Go.Proofs.YtedjiaenodechaaGreatDoor
open Go.RowKit
namespace Sp
theorem nil_bytes : nbytes (nodeT .nil) = ([0, 0], 0) := by
  first | kernel_rfl | decide
theorem nil_sum : nsum (nodeT .nil) = sha [0, 0] := by
  unfold nsum
  rw [nil_bytes, if_neg (by decide)]
/-- The example's version, its path, its tree. -/
def exV : Ver := ⟨(1, 1), [], false, [120]⟩
def exP : Bs := [97, 47, 98]
theorem ex_code : setCode none exP [exV] = 0 := by rfl
theorem ex_len : (entriesO (withO none (split exP) [exV])).length = 1 := by rfl
theorem ex_find : (findS ((withO none (split exP) [exV]).getD .nil) [97]).isSome = true := by rfl
theorem ex_get : (nodeS ((withO none (split exP) [exV]).getD .nil) exP).1.length = 1 := by rfl
end Sp
end Go.Proofs.YtedjiaenodechaaGreatDoor
namespace Go.Proofs.YtedjiaenodechaaGreatDoor
open Go.RowKit Go.Shelf
attribute [local go_sem] yUpon strOf_toList
theorem ex_vers {w : World} {g : Nat} (h : isBlk w g 82 (verC none 0 Sp.exV)) : Vers w (some ⟨g, 0, none⟩) [Sp.exV] := by
  refine ⟨[(none, 0, Sp.exV)], rfl, fun _ => ⟨g, 0, rfl, fun j u hj => ?_⟩, fun x hx => ?_⟩
  · rw [Nat.zero_add, h.cell j]
    simpa [versC] using hj
  · rw [List.mem_singleton.1 hx]
    exact ⟨Cells.nil _ _, by decide⟩
theorem dig_guard : Tryz.prog.eqGuardType Tryz.prog.depth 41 = false := by kernel_rfl
theorem dig_eq (x : Sp.Bs) (h : x.length = 32) (w : World) : (Op.equalIn 10000 41 (.agg (digC x)) (.agg (digC x))).run Tryz.prog w = .ok true w := by
  have := run_equalIn_bytes (P := Tryz.prog) w 9998 41 5 32 Tryz.underlying41 Tryz.underlying5 (fun w => Tryz.sizeOf5 w) x x h h
  rw [beq_self_eq_true] at this
  exact this
set_option maxRecDepth 100000 in
set_option maxHeartbeats 4000000 in
theorem awake15_calls (w : World) (K : KeysAt w 2) (K2 : KeysAt w 0) (M : MaxAt w) :
    Calls Tryz.prog 10 #[] w fun e w' => e = .returned (.bool true) ∧ Ext w w' := by
  have KK := Lib.hid K
  have KK2 := Lib.hid K2
  have MM := Lib.hid M
  have tok : True := trivial
  clear K K2 M
  go_enter Tryz.func10, Tryz.ntmps10
  go_wp2_with (have _t := tok; (with_reducible refine at_bslice rfl ?_); refine bslice_new rfl 31 82 _ rfl appVer (by decide) (verC none 0 Sp.exV) rfl rfl ?_; intro gv wv hgv hxv hbv; have XV := Lib.hid hxv; have BV := Lib.hid hbv; clear tok _t hgv hxv hbv)
  have SC := Lib.hid (set_calls none (.pointer none) Sp.exP [Sp.exV] (some ⟨gv, 0, none⟩) 1 wv (.inl ⟨rfl, rfl⟩) (fun t h => by cases h) (by decide) (ex_vers XV.out) (KK.out.ext BV.out) (max_kept MM.out BV.out))
  rw [Sp.ex_code] at SC
  refine SC.out.mono ?_
  rintro e w2 ⟨v2, rfl, h0, _, hb2⟩
  obtain ⟨o, ho⟩ : ∃ o, o = Sp.withO none (Sp.split Sp.exP) [Sp.exV] := ⟨_, rfl⟩
  have T2 := Lib.hid (show TreeAt w2 v2 o by rw [ho]; exact h0 rfl)
  have G2 := Lib.hid (show Sp.GoodO o by rw [ho]; exact Sp.setCode_good Sp.ex_code Sp.good_none)
  have E2 := Lib.hid (BV.out.trans hb2)
  have XF := Lib.hid (show (Sp.findS (o.getD .nil) [97]).isSome = true by rw [ho]; exact Sp.ex_find)
  have XL := Lib.hid (show (Sp.entriesO o).length = 1 by rw [ho]; exact Sp.ex_len)
  have XG := Lib.hid (show (Sp.nodeS (o.getD .nil) Sp.exP).1.length = 1 by rw [ho]; exact Sp.ex_get)
  have tokA : True := trivial
  clear h0 hb2 SC ho
  go_wp2_with fail
  refine (tnode_calls o v2 [97] w2 T2.out G2.out (KK.out.ext E2.out) (max_kept MM.out E2.out)).mono ?_
  rintro e w3 ⟨A3, c3, B3, c4, rfl, _, _, hb3⟩
  rw [XF.out]
  have E3 := Lib.hid (E2.out.trans hb3)
  have T3 := Lib.hid (T2.out.ext hb3)
  clear hb3
  go_wp2_with (have _t := tokA; ((with_reducible refine at_alloc (t := 34) rfl ?_); refine box_new rfl (cs := #[.slice none 0 0, .slice none 0 0]) (t := 34) (by first | (go_simp; done) | (go_simp; rfl)) ?_; intro g4 w4 hg4 hx4 hb4; have H4 := Lib.hid hx4; have B4 := Lib.hid (show Ext w3 w4 from hb4); have GG4 := Lib.hid hg4; have k0 := (hx4.cell 0).trans rfl; have k1 := (hx4.cell 1).trans rfl; have k2 := hx4.frozen 0; have k3 := hx4.frozen 1; clear tokA _t hx4 hb4 hg4))
  obtain ⟨w5, hw5⟩ : ∃ w5, w5 = (w4.setCell ⟨g4, 0, none⟩ (.slice A3 (Sp.nodeS (o.getD .nil) [97]).1.length c3)).setCell ⟨g4, 1, none⟩ (.slice B3 (Sp.nodeS (o.getD .nil) [97]).2.length c4) := ⟨_, rfl⟩
  have B5 := Lib.hid (show Ext w3 w5 by rw [hw5]; exact (B4.out.setCell GG4.out _).setCell GG4.out _)
  rw [← hw5]
  clear hw5 k0 k1 k2 k3
  have E5 := Lib.hid (E3.out.trans B5.out)
  refine (len_calls o v2 w5 (T3.out.ext B5.out) (KK.out.ext E5.out)).mono ?_
  rintro e w6 ⟨rfl, hb6⟩
  rw [XL.out]
  have T6 := Lib.hid (T3.out.ext (B5.out.trans hb6))
  have E6 := Lib.hid (E5.out.trans hb6)
  clear hb6
  go_wp2_with fail
  refine (troot_calls none (.pointer none) w6 (.inl ⟨rfl, rfl⟩) (KK.out.ext E6.out)).mono ?_
  rintro e w7 ⟨rfl, hb7⟩
  have T7 := Lib.hid (T6.out.ext hb7)
  have E7 := Lib.hid (E6.out.trans hb7)
  rw [show Sp.nsum (Sp.nodeT ((none : Option Sp.T).getD .nil)) = Sp.sha [0, 0] from Sp.nil_sum]
  clear hb7
  go_wp2_with fail
  refine (rsha_calls [0, 0] w7 (by decide) (KK2.out.ext E7.out)).mono ?_
  rintro e w8 ⟨rfl, hb8⟩
  have T8 := Lib.hid (T7.out.ext hb8)
  have E8 := Lib.hid (E7.out.trans hb8)
  have hq := fun W => dig_eq (Sp.sha [0, 0]) (Sp.sha_len _) W
  have hg := dig_guard
  clear hb8
  rw [show digV (Sp.sha [0, 0]) = .agg (digC (Sp.sha [0, 0])) from rfl]
  obtain ⟨ds, hds⟩ : ∃ ds, ds = digC (Sp.sha [0, 0]) := ⟨_, rfl⟩
  rw [← hds] at hq ⊢
  clear hds
  go_wp2_with fail
  refine (len_calls none (.pointer none) w8 (.inl ⟨rfl, rfl⟩) (KK.out.ext E8.out)).mono ?_
  rintro e w9 ⟨rfl, hb9⟩
  rw [show (Sp.entriesO none).length = 0 from rfl]
  have T9 := Lib.hid (T8.out.ext hb9)
  have E9 := Lib.hid (E8.out.trans hb9)
  clear hb9
  go_wp2_with fail
  refine (tget_calls o v2 Sp.exP w9 T9.out G2.out (KK.out.ext E9.out) (max_kept MM.out E9.out)).mono ?_
  rintro e w10 ⟨A5, c5, rfl, _, hb10⟩
  rw [XG.out]
  have E10 := Lib.hid (E9.out.trans hb10)
  clear hb10
  go_wp2
  go_ret
  exact ⟨rfl, E10.out⟩
end Go.Proofs.YtedjiaenodechaaGreatDoor
namespace Go.Proofs.YtedjiaenodechaaGreatDoor
open Go.RowKit Go.Shelf
attribute [local go_sem] yUpon strOf_toList
/-- A pin: the tree's pointer, what it is, when it was last of use. -/
abbrev Pin := Option Addr × Option Sp.T × Int
def pinV (x : Pin) : Value := .agg #[.pointer x.1, .int .i64 x.2.2]
def pinsC : List Pin → List Value
  | [] => []
  | x :: r => .pointer x.1 :: .int .i64 x.2.2 :: pinsC r
theorem pinsC_len (l : List Pin) : (pinsC l).length = l.length * 2 := by
  induction l with
  | nil => rfl
  | cons x r ih => simp [pinsC, ih]; omega
theorem pinsC_snoc (l : List Pin) (x : Pin) : pinsC (l ++ [x]) = pinsC l ++ [.pointer x.1, .int .i64 x.2.2] := by
  induction l with
  | nil => rfl
  | cons y r ih => simp [pinsC, ih]
theorem pinsC_get : ∀ (l : List Pin) (k : Nat) (h : k < l.length), (pinsC l)[k * 2]? = some (.pointer l[k].1) ∧ (pinsC l)[k * 2 + 1]? = some (.int .i64 l[k].2.2)
  | x :: r, 0, _ => ⟨rfl, rfl⟩
  | x :: r, k + 1, h => by
    have := pinsC_get r k (by simpa using h)
    simp only [pinsC, show (k + 1) * 2 = k * 2 + 1 + 1 by omega, List.getElem?_cons_succ, List.getElem_cons_succ]
    exact this
theorem pins_at {w : World} {A : Option Addr} {l : List Pin} (h : Cells w A (pinsC l)) (hn : 0 < l.length) : ∃ g o, A = some ⟨g, o, none⟩ ∧ ∀ k (h : k < l.length), w.cell? ⟨g, o + k * 2, none⟩ = some (.pointer l[k].1) ∧ w.cell? ⟨g, o + k * 2 + 1, none⟩ = some (.int .i64 l[k].2.2) := by
  obtain ⟨g, o, hA, hc⟩ := h (by intro e; have := pinsC_len l; rw [e] at this; simp at this; omega)
  exact ⟨g, o, hA, fun k hk => ⟨hc _ _ (pinsC_get l k hk).1, by rw [Nat.add_assoc]; exact hc _ _ (pinsC_get l k hk).2⟩⟩
theorem appPin : AppStat Tryz.prog 60 101 2 16 := by
  refine ⟨Tryz.underlying60, by decide, by decide, ?_⟩
  obtain ⟨i0, hi, hz0, hz1, hz2⟩ := info_parts (show (Tryz.prog.info? 101).map (fun i => (i.zero, i.size, i.bytes)) = some (some (.agg #[.pointer none, .int .i64 0]), 2, 16) by kernel_rfl)
  exact ⟨i0, _, hi, hz0, hz1, hz2, rfl⟩
/-- Those of the first so many of which something is so. -/
def selN (p : Nat → Bool) (l : List Pin) (k : Nat) : List Pin := (List.range k).filterMap fun i => if p i then l[i]? else none
theorem selN_succ (p : Nat → Bool) (l : List Pin) (k : Nat) (h : k < l.length) : selN p l (k + 1) = selN p l k ++ if p k then [l[k]] else [] := by
  unfold selN
  rw [List.range_succ, List.filterMap_append]
  cases hp : p k <;> simp [hp, h]
theorem selN_len (p : Nat → Bool) (l : List Pin) (k : Nat) : (selN p l k).length ≤ k := by
  have := List.length_filterMap_le (fun i => if p i then l[i]? else none) (List.range k)
  rwa [List.length_range] at this
def hasP (q : Pin → Bool) (l : List Pin) (i : Nat) : Bool := (l[i]?.map q).getD false
theorem selN_filter (q : Pin → Bool) (l : List Pin) : ∀ k, k ≤ l.length → selN (hasP q l) l k = (l.take k).filter q
  | 0, _ => rfl
  | k + 1, h => by
    have hk : k < l.length := h
    rw [selN_succ _ _ _ hk, selN_filter q l k (by omega), List.take_succ_eq_append_getElem hk, List.filter_append]
    congr 1
    simp only [hasP, List.getElem?_eq_getElem hk, Option.map_some, Option.getD_some]
    cases hq : q l[k] <;> simp [hq]
theorem clamp_calls (n : Int) (w : World) : Calls Tryz.prog 48 #[.int .i64 n] w fun e w' => e = .returned (.int .i64 (max 0 (min n 1099511627776))) ∧ w = w' := by
  go_enter Tryz.func48, Tryz.ntmps48
  go_wp2
  go_ret
  exact ⟨rfl, rfl⟩
abbrev intT : TypeId → Prop := fun t => t = 3
set_option maxRecDepth 100000 in
set_option maxHeartbeats 4000000 in
theorem some_calls (l : List Pin) (A : Option Addr) (cap : Nat) (f : FuncId) (bs : Array Value) (p : Nat → Bool) (J : Nat → World → Prop) (w : World) (hl : l.length ≤ 1000000) (eg : ∀ args w, (callFunc f args).run Tryz.prog w = .ok (.enter f args) w)
    (hJ : ∀ k W W', J k W → Below w.heap.size W W' → J k W') (hs : ∀ k W, J k W → Cells W A (pinsC l)) (hB : ∀ k W, J k W → w.heap.size ≤ W.heap.size)
    (hf : ∀ k (h : k < l.length) W, J k W → Calls Tryz.prog f (#[pinV l[k]] ++ bs) W fun e W' => e = .returned (.bool (p k)) ∧ J (k + 1) W' ∧ KB intT 0 W W') (h0 : J 0 w) :
    Calls Tryz.prog 74 #[.slice A l.length cap, .func (.func f) #[] bs] w fun e w' => ∃ v, e = .returned v ∧ w'.ownsRow w.heap.size 101 2 v (selN p l l.length).length (pinsC (selN p l l.length)) ∧ J l.length w' := by
  have HJ := Lib.hid hJ
  have HS := Lib.hid hs
  have HB := Lib.hid hB
  have HF := Lib.hid hf
  have H0 := Lib.hid h0
  clear hJ hs hB hf h0
  go_enter Tryz.func74, Tryz.ntmps74
  go_wp2
  go_loopw [5, 10] (fun v5 v10 wr => ∃ k : Nat, k ≤ l.length ∧ v10 = .int .i64 k ∧ wr.ownsRow w.heap.size 101 2 v5 (selN p l k).length (pinsC (selN p l k)) ∧ J k wr) (fun _ v10 _ => l.length - (intOf v10).toNat)
  case atStart => exact ⟨0, Nat.zero_le _, rfl, World.ownsRow_nil _ _ _ _, H0.out⟩
  case round =>
    obtain ⟨k, hk, rfl, hO, hj⟩ := hrel
    by_cases hlt : k < l.length
    · obtain ⟨g, o, rfl, hc⟩ := pins_at (HS.out k wr hj) (by omega)
      obtain ⟨c0, c1⟩ := hc k hlt
      have st := selN_succ p l k hlt
      have sl := selN_len p l k
      have CF := Lib.hid fun W (h : J k W) => HF.out k hlt W h
      obtain ⟨x, hx⟩ : ∃ x, x = l[k] := ⟨_, rfl⟩
      rw [← hx] at c0 c1 st CF
      obtain ⟨x1, x2, x3⟩ := x
      simp only at c0 c1
      obtain ⟨s, hsl⟩ : ∃ s, s = selN p l k := ⟨_, rfl⟩
      rw [← hsl] at hO st sl
      have O := Lib.hid hO
      have JJ := Lib.hid hj
      have ST := Lib.hid st
      have b1 : (k : Int) < (l.length : Int) := by omega
      obtain ⟨q, hq⟩ : ∃ q, q = p k := ⟨_, rfl⟩
      rw [← hq] at st CF
      have ST := Lib.hid st
      clear hO hj hc hx hsl st hq
      go_wp2_with fail
      refine (CF.out _ (HJ.out _ _ _ JJ.out ((Ext.alloc wr (.cells #[.pointer x1, .int .i64 x3] 101)).mono (HB.out _ _ JJ.out)))).mono ?_
      rintro e w2 ⟨rfl, hj2, hk2⟩
      have X2 := Lib.hid (show isBlk w2 wr.heap.size 101 #[.pointer x1, .int .i64 x3] from hk2.row _ _ _ _ (box_at wr _ _) (by intro h; cases h))
      have O2 := Lib.hid (own_keep (T := intT) (by intro h; cases h) (own_ext O.out (Ext.alloc wr (.cells #[.pointer x1, .int .i64 x3] 101))) hk2)
      have J2 := Lib.hid hj2
      clear hj2 hk2 c0 c1
      cases q with
      | false =>
        have ST2 := Lib.hid (show selN p l (k + 1) = s by rw [ST.out]; simp)
        go_wp2
        go_roundw
        case rel => exact ⟨k + 1, by omega, by go_num, by rw [ST2.out]; exact O2.out, J2.out⟩
        case measure => simp [intOf]; omega
      | true =>
        have ST2 := Lib.hid (show selN p l (k + 1) = s ++ [(x1, x2, x3)] by rw [ST.out]; simp)
        have k0 := (X2.out.cell 0).trans rfl
        have k1 := (X2.out.cell 1).trans rfl
        go_wp2_with (at_builtin; refine app_new appPin rfl _ _ rfl w.heap.size _ s.length _ rfl O2.out #[.pointer x1, .int .i64 x3] 101 1 rfl rfl (by intro u hu; simp at hu; rcases hu with rfl | rfl <;> rfl) (by decide) (by omega) (HB.out _ _ J2.out) ?_; intro g6 cap6 w6 hown6 hgr6 hb6 hbg6; have O6 := Lib.hid hown6; have B6 := Lib.hid hb6; have G6 := Lib.hid hgr6; clear hown6 hgr6 hb6 hbg6)
        refine ⟨⟨k + 1, by omega, by go_num, ?_, HJ.out _ _ _ J2.out B6.out⟩, by simp [intOf]; omega⟩
        rw [ST2.out, pinsC_snoc, List.length_append]
        exact O6.out
    · obtain rfl : k = l.length := by omega
      have O := Lib.hid hO
      have JJ := Lib.hid hj
      clear hO hj
      go_wp2
      go_ret
      exact ⟨_, rfl, O.out, JJ.out⟩
end Go.Proofs.YtedjiaenodechaaGreatDoor
