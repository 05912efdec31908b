/- Walks: whether two trees are the same. Walks: TreeApart. -/
import Derived.Test.YtmlkachfahabnaaGreatDoorTA39
import Derived.Test.YtmlkachfahabnaaGreatDoorTA44
import Derived.Test.YtmlkachfahabnaaGreatDoorTA11
import Derived.Deep.DeepCutAuto
import Derived.Test.YtmlkachfahabnaaGreatDoorTA48
import Derived.Test.YtmlkachfahabnaaGreatDoorTA45
namespace Go.Proofs.YtmlkachfahabnaaGreatDoor
open Go.RowKit Go.Shelf
attribute [local go_sem] yUpon strOf_toList
abbrev entV (A : Option Addr) (c : Nat) (x : Sp.DE) : Value := .agg #[.string (strOf x.1), .slice A x.2.length c]
set_option maxRecDepth 100000 in
set_option maxHeartbeats 4000000 in
theorem tsame1_calls (x y : Sp.DE) (A B : Option Addr) (c d : Nat) (w : World) (h : Vers w A x.2) (h' : Vers w B y.2) (hl : x.2.length ≤ 1000000) :
    Calls Tryz.prog 27 #[entV A c x, entV B d y] w fun e w' => e = .returned (.bool (decide (x = y))) ∧ Ext w w' := by
  obtain ⟨x1, x2⟩ := x
  obtain ⟨y1, y2⟩ := y
  have CS := Lib.hid fun W (e : Ext w W) => same_calls x2 y2 A B c d W (h.ext e) (h'.ext e) (by simp only at hl; omega)
  obtain ⟨w2, hw2⟩ : ∃ w2, w2 = (w.alloc (.cells #[.string (strOf x1), .slice A x2.length c] 41)).alloc (.cells #[.string (strOf y1), .slice B y2.length d] 41) := ⟨_, rfl⟩
  have E2 := Lib.hid (show Ext w w2 by rw [hw2]; exact (Ext.alloc _ _).trans (Ext.alloc _ _))
  have HW := Lib.hid hw2
  clear h h' hw2
  by_cases hp : x1 = y1
  · subst hp
    have e1 : (x1 == x1) = true := beq_self_eq_true _
    have F := Lib.hid (show decide (((x1, x2) : Sp.DE) = (x1, y2)) = decide (x2 = y2) by simp)
    go_enter Tryz.func27, Tryz.ntmps27
    go_wp2_with fail
    rw [← HW.out]
    refine (CS.out w2 E2.out).mono ?_
    rintro e w3 ⟨rfl, hb3⟩
    go_wp2
    go_ret
    exact ⟨by rw [F.out]; rfl, E2.out.trans hb3⟩
  · have e1 : (x1 == y1) = false := by rw [beq_eq_false_iff_ne]; exact hp
    have F := Lib.hid (show decide (((x1, x2) : Sp.DE) = (y1, y2)) = false by rw [decide_eq_false_iff_not]; intro h; exact hp (congrArg Prod.fst h))
    clear hp
    go_enter Tryz.func27, Tryz.ntmps27
    go_wp2_with fail
    go_ret
    refine ⟨?_, by have := E2.out; rw [HW.out] at this; exact this⟩
    have := F.out
    first
      | (rw [this]; rfl)
      | (simp_all; done)
      | (have h3 : ¬ (x1 = y1 ∧ x2 = y2) := fun h => (by simp at this; exact this h.1 h.2)
         simp [h3])
set_option maxRecDepth 100000 in
set_option maxHeartbeats 4000000 in
theorem entequal_calls (l m : List Sp.DE) (A B : Option Addr) (cap cap' : Nat) (w : World) (h : EntsAt w A l) (h' : EntsAt w B m) (hl : l.length ≤ 1000000) (hs : ∀ e ∈ l, e.2.length ≤ 1000000) :
    Calls Tryz.prog 26 #[.slice A l.length cap, .slice B m.length cap', .func (.func 27) #[] #[]] w fun e w' => e = .returned (.bool (decide (l = m))) ∧ Ext w w' := by
  by_cases hlm : l.length = m.length
  · have b0 : ((l.length : Int) == (m.length : Int)) = true := by rw [hlm]; simp
    have b1 : ((l.length : Int) != (m.length : Int)) = false := by rw [hlm]; simp
    have HL := Lib.hid hlm
    have HH := Lib.hid h
    have HH' := Lib.hid h'
    clear hlm h h'
    go_enter Tryz.func26, Tryz.ntmps26
    go_wp2
    go_loopw [17] (fun v13 wr => ∃ k : Nat, k ≤ l.length ∧ v13 = .int .i64 k ∧ decide (l = m) = decide (l.drop k = m.drop k) ∧ Ext w wr) (fun v13 _ => l.length - (intOf v13).toNat)
    case atStart => exact ⟨0, Nat.zero_le _, rfl, rfl, Ext.refl _⟩
    case round =>
      obtain ⟨k, hk, rfl, hv, hb⟩ := hrel
      by_cases hlt : k < l.length
      · have hlt' : k < m.length := by have := HL.out; omega
        obtain ⟨g, o, rfl, hc⟩ := (HH.out.ext hb).at (by omega)
        obtain ⟨g', o', rfl, hc'⟩ := (HH'.out.ext hb).at (by omega)
        obtain ⟨Av, cv, c0, c1, hvv⟩ := hc k hlt
        obtain ⟨Bv, dv, d0, d1, hvv'⟩ := hc' k hlt'
        have hls := hs _ (List.getElem_mem hlt)
        rw [Sp.beq_drop l m k hlt hlt'] at hv
        have HV := Lib.hid hv
        have C := Lib.hid fun W (e : Ext wr W) => tsame1_calls l[k] m[k] Av Bv cv dv W (hvv.ext e) (hvv'.ext e) hls
        obtain ⟨x, hx⟩ : ∃ x, x = l[k] := ⟨_, rfl⟩
        obtain ⟨y, hy⟩ : ∃ y, y = m[k] := ⟨_, rfl⟩
        rw [← hx, ← hy] at C HV
        rw [← hx] at c0 c1
        rw [← hy] at d0 d1
        have e0 := Ext.alloc wr (.cells #[.string (strOf x.1), .slice Av x.2.length cv] 41)
        have d0' := e0.cell d0
        have d1' := e0.cell d1
        have b2 : (k : Int) < (l.length : Int) := by omega
        have b3 : (k : Int) < (m.length : Int) := by omega
        clear hv hc hc' hvv hvv' e0 d0 d1 hls hx hy
        go_wp2_with (go_at_call 27; refine (C.out _ ((Ext.alloc _ _).trans (Ext.alloc _ _))).mono ?_; rintro e w1 ⟨rfl, hb1⟩; have B1 := Lib.hid (hb.trans (((Ext.alloc _ _).trans (Ext.alloc _ _)).trans hb1)); clear hb1)
        · go_ret
          refine ⟨?_, B1.out⟩
          have := HV.out
          simp_all
        · go_roundw
          case rel =>
            refine ⟨k + 1, by omega, by go_num, ?_, B1.out⟩
            have := HV.out
            simp_all
          case measure => simp [intOf]; omega
      · obtain rfl : k = l.length := by omega
        have HV := Lib.hid hv
        clear hv
        go_wp2
        go_ret
        exact ⟨by rw [HV.out, List.drop_length, HL.out, List.drop_length]; rfl, hb⟩
  · have b0 : ((l.length : Int) == (m.length : Int)) = false := by rw [beq_eq_false_iff_ne]; omega
    have b1 : ((l.length : Int) != (m.length : Int)) = true := by rw [bne_iff_ne]; omega
    have F := Lib.hid (show decide (l = m) = false by rw [decide_eq_false_iff_not]; rintro rfl; exact hlm rfl)
    clear hlm
    go_enter Tryz.func26, Tryz.ntmps26
    go_wp2
    go_ret
    exact ⟨by rw [F.out]; rfl, Ext.refl _⟩
theorem told_leaves {o : Option Sp.T} (h : Sp.GoodO o) : ∀ e ∈ Sp.told o, e.2.length ≤ 1000000 := fun e he => by
  obtain ⟨y, hy, rfl⟩ := List.mem_map.1 he
  exact (Sp.told_fit h y hy).1
theorem told_len {o : Option Sp.T} (h : Sp.GoodO o) : (Sp.told o).length ≤ 128 := by
  unfold Sp.told
  rw [List.length_map]
  exact h.2
set_option maxRecDepth 100000 in
set_option maxHeartbeats 4000000 in
theorem tsame_calls (oa ob : Option Sp.T) (a b : Value) (w : World) (ha : TreeAt w a oa) (hb : TreeAt w b ob) (ga : Sp.GoodO oa) (gb : Sp.GoodO ob) (da : ∀ x ∈ Sp.entriesO oa, x.1.length ≤ 60) (db : ∀ x ∈ Sp.entriesO ob, x.1.length ≤ 60) (K : KeysAt w 2) :
    Calls Tryz.prog 12 #[a, b] w fun e w' => e = .returned (.bool (decide (Sp.told oa = Sp.told ob))) ∧ Ext w w' := by
  have EA := Lib.hid (entries_calls oa a w ha ga da K)
  have EB := Lib.hid fun W (e : Ext w W) => entries_calls ob b W (hb.ext e) gb db (K.ext e)
  have LA := Lib.hid (told_len ga)
  have FA := Lib.hid (told_leaves ga)
  clear ha hb ga gb da db K
  go_enter Tryz.func12, Tryz.ntmps12
  go_wp2_with fail
  refine EA.out.mono ?_
  rintro e w1 ⟨A1, c1, rfl, he1, hb1⟩
  have E1 := Lib.hid he1
  have B1 := Lib.hid (show Ext w w1 from hb1)
  clear he1 hb1
  go_wp2_with fail
  refine (EB.out w1 B1.out).mono ?_
  rintro e w2 ⟨A2, c2, rfl, he2, hb2⟩
  have E2 := Lib.hid he2
  have E12 := Lib.hid (E1.out.ext hb2)
  have B2 := Lib.hid (B1.out.trans hb2)
  clear he2 hb2
  go_wp2_with fail
  refine (entequal_calls (Sp.told oa) (Sp.told ob) A1 A2 c1 c2 w2 E12.out E2.out (Nat.le_trans LA.out (by decide)) FA.out).mono ?_
  rintro e w3 ⟨rfl, hb3⟩
  have B3 := Lib.hid (B2.out.trans hb3)
  clear hb3
  go_wp2
  go_ret
  exact ⟨rfl, B3.out⟩
end Go.Proofs.YtmlkachfahabnaaGreatDoor
namespace Go.Proofs.YtmlkachfahabnaaGreatDoor
open Go.RowKit Go.Shelf
attribute [local go_sem] yUpon strOf_toList
set_option maxRecDepth 100000 in
set_option maxHeartbeats 8000000 in
theorem treeApart_calls (la lb : List Sp.DE) (A B : Option Addr) (cap cap' : Nat) (w : World) (hA : EntsAt w A la) (hB : EntsAt w B lb) (K : KeysAt w 2) (K2 : KeysAt w 0) (M : MaxAt w) :
    Calls Tryz.prog 3 #[.slice A la.length cap, .slice B lb.length cap'] w fun e w' => e = .returned (.bool true) ∧ Ext w w' := by
  have KK := Lib.hid K
  have KK2 := Lib.hid K2
  have MM := Lib.hid M
  have HA := Lib.hid hA
  have HB := Lib.hid hB
  have AW := Lib.hid fun W (e : Ext w W) => awake15_calls W (K.ext e) (K2.ext e) (max_kept M e)
  clear K K2 M hA hB
  go_enter Tryz.func3, Tryz.ntmps3
  go_wp2_with fail
  refine (great15_calls la A cap 12 w HA.out (by decide)).mono ?_
  rintro e w1 ⟨b, rfl, hgr, hb1⟩
  have B1 := Lib.hid (show Ext w w1 from hb1)
  clear hb1
  cases b with
  | true =>
    go_wp2_with fail
    refine (AW.out w1 B1.out).mono ?_
    rintro e w2 ⟨rfl, hb2⟩
    go_wp2
    go_ret
    exact ⟨rfl, B1.out.trans hb2⟩
  | false =>
    obtain ⟨hla, hpa⟩ := hgr rfl
    go_wp2_with fail
    refine (great15_calls lb B cap' 12 w1 (HB.out.ext B1.out) (by decide)).mono ?_
    rintro e w2 ⟨b, rfl, hgr, hb2⟩
    have B2 := Lib.hid (show Ext w w2 from B1.out.trans hb2)
    clear hb2
    cases b with
    | true =>
      go_wp2_with fail
      refine (AW.out w2 B2.out).mono ?_
      rintro e w3 ⟨rfl, hb3⟩
      go_wp2
      go_ret
      exact ⟨rfl, B2.out.trans hb3⟩
    | false =>
      obtain ⟨hlb, hpb⟩ := hgr rfl
      go_wp2_with fail
      refine (of_calls la A cap w2 (HA.out.ext B2.out) (by omega) (KK.out.ext B2.out) (max_kept MM.out B2.out)).mono ?_
      rintro e w3 ⟨v3, rfl, ht3, hb3⟩
      have T3 := Lib.hid ht3
      have B3 := Lib.hid (B2.out.trans hb3)
      clear ht3 hb3
      go_wp2_with fail
      refine (of_calls lb B cap' w3 (HB.out.ext B3.out) (by omega) (KK.out.ext B3.out) (max_kept MM.out B3.out)).mono ?_
      rintro e w4 ⟨v4, rfl, ht4, hb4⟩
      have TB := Lib.hid ht4
      have TA := Lib.hid (T3.out.ext hb4)
      have B4 := Lib.hid (B3.out.trans hb4)
      clear ht4 hb4 T3
      have PA := Lib.hid (Sp.pair_of la)
      have PB := Lib.hid (Sp.pair_of lb)
      obtain ⟨oa, hoa⟩ : ∃ oa, oa = (Sp.ofT none la).1 := ⟨_, rfl⟩
      obtain ⟨ob, hob⟩ : ∃ ob, ob = (Sp.ofT none lb).1 := ⟨_, rfl⟩
      obtain ⟨ma, hma⟩ : ∃ ma, ma = (Sp.rof [] la).1 := ⟨_, rfl⟩
      obtain ⟨mb, hmb⟩ : ∃ mb, mb = (Sp.rof [] lb).1 := ⟨_, rfl⟩
      rw [← hoa, ← hma] at PA
      rw [← hob, ← hmb] at PB
      rw [← hoa] at TA
      rw [← hob] at TB
      obtain ⟨ca, hca⟩ : ∃ ca, ca = (Sp.ofT none la).2 := ⟨_, rfl⟩
      obtain ⟨cb, hcb⟩ : ∃ cb, cb = (Sp.ofT none lb).2 := ⟨_, rfl⟩
      rw [← hca, ← hcb]
      clear hoa hob hma hmb hca hcb hpa hpb hgr hla hlb
      have wa := Lib.hid PA.out.told
      have wb := Lib.hid PB.out.told
      have fa := Lib.hid (show ∀ x ∈ Sp.entriesO oa, x.1.length ≤ 60 from Sp.told_short PA.out.eq PA.out.gm)
      have fb := Lib.hid (show ∀ x ∈ Sp.entriesO ob, x.1.length ≤ 60 from Sp.told_short PB.out.eq PB.out.gm)
      by_cases ha0 : ca = 0
      · by_cases hb0 : cb = 0
        · subst ha0 hb0
          have EA := Lib.hid fun W (e : Ext w4 W) => entries_calls oa v3 W (TA.out.ext e) PA.out.go fa.out (KK.out.ext (B4.out.trans e))
          have EB := Lib.hid fun W (e : Ext w4 W) => entries_calls ob v4 W (TB.out.ext e) PB.out.go fb.out (KK.out.ext (B4.out.trans e))
          rw [wa.out] at EA
          rw [wb.out] at EB
          have SA := Lib.hid fun A c W (h : EntsAt W A ma) => rshown_calls ma A c W h (Nat.le_trans PA.out.gm.2 (by decide)) (Sp.told_leaf PA.out.eq PA.out.go)
          have SB := Lib.hid fun A c W (h : EntsAt W A mb) => rshown_calls mb A c W h (Nat.le_trans PB.out.gm.2 (by decide)) (Sp.told_leaf PB.out.eq PB.out.go)
          have NA := Lib.hid fun W (e : Ext w4 W) => tseen_calls oa v3 W (TA.out.ext e) (KK.out.ext (B4.out.trans e))
          have NB := Lib.hid fun W (e : Ext w4 W) => tseen_calls ob v4 W (TB.out.ext e) (KK.out.ext (B4.out.trans e))
          have RA := Lib.hid fun W (e : Ext w4 W) => troot_calls oa v3 W (TA.out.ext e) (KK.out.ext (B4.out.trans e))
          have RB := Lib.hid fun W (e : Ext w4 W) => troot_calls ob v4 W (TB.out.ext e) (KK.out.ext (B4.out.trans e))
          have TS := Lib.hid fun W (e : Ext w4 W) => tsame_calls oa ob v3 v4 W (TA.out.ext e) (TB.out.ext e) PA.out.go PB.out.go fa.out fb.out (KK.out.ext (B4.out.trans e))
          rw [wa.out, wb.out] at TS
          have SAB := Lib.hid fun A B c c' W (h : EntsAt W A (Sp.shownM ma)) (h' : EntsAt W B (Sp.shownM mb)) => esame_calls (Sp.shownM ma) (Sp.shownM mb) A B c c' W h h' (Nat.le_trans (Sp.shownM_len ma) (Nat.le_trans PA.out.gm.2 (by decide))) (fun e he => by
            unfold Sp.shownM at he
            obtain ⟨y, hy, h2⟩ := List.mem_filterMap.1 he
            split at h2
            · cases h2
            · cases h2
              exact Nat.le_trans (List.length_filter_le _ _) (Sp.told_leaf PA.out.eq PA.out.go y hy))
          have P1 := Lib.hid (fun h => Sp.seen_same PA.out PB.out h)
          have P2 := Lib.hid (fun h h' => Sp.root_clash PA.out PB.out h h')
          have P3 := Lib.hid (fun h h' => Sp.seen_clash PA.out PB.out h h')
          obtain ⟨_, a2, a3, a4⟩ := id (Sp.shown_both PA.out.eq PA.out.go PA.out.gm)
          obtain ⟨_, b2, b3, b4⟩ := id (Sp.shown_both PB.out.eq PB.out.go PB.out.gm)
          have LA := Lib.hid (Sp.texts_few PA.out.ok PA.out.gm PA.out.ent)
          have LB := Lib.hid (Sp.texts_few PB.out.ok PB.out.gm PB.out.ent)
          have LA2 := Lib.hid (Sp.texts_few a2 (Sp.shown_both PA.out.eq PA.out.go PA.out.gm).1 a4)
          have LB2 := Lib.hid (Sp.texts_few b2 (Sp.shown_both PB.out.eq PB.out.go PB.out.gm).1 b4)
          have XA := Lib.hid fun A c W (h : EntsAt W A ma) (e : Ext w4 W) => rtexts_calls ma PA.out.gm A c 5 [] (oa.getD .nil) W (by omega) (.inl rfl) PA.out.ok PA.out.size (by rw [Sp.parts_empty]; exact PA.out.ent) (by have := LA.out; omega) h (KK2.out.ext (B4.out.trans e))
          have XB := Lib.hid fun A c W (h : EntsAt W A mb) (e : Ext w4 W) => rtexts_calls mb PB.out.gm A c 5 [] (ob.getD .nil) W (by omega) (.inl rfl) PB.out.ok PB.out.size (by rw [Sp.parts_empty]; exact PB.out.ent) (by have := LB.out; omega) h (KK2.out.ext (B4.out.trans e))
          have YA := Lib.hid fun A c W (h : EntsAt W A (Sp.shownM ma)) (e : Ext w4 W) => rtexts_calls (Sp.shownM ma) (Sp.shown_both PA.out.eq PA.out.go PA.out.gm).1 A c 5 [] (Sp.showT (oa.getD .nil)) W (by omega) (.inl rfl) a2 a3 (by rw [Sp.parts_empty]; exact a4) (by have := LA2.out; omega) h (KK2.out.ext (B4.out.trans e))
          have YB := Lib.hid fun A c W (h : EntsAt W A (Sp.shownM mb)) (e : Ext w4 W) => rtexts_calls (Sp.shownM mb) (Sp.shown_both PB.out.eq PB.out.go PB.out.gm).1 A c 5 [] (Sp.showT (ob.getD .nil)) W (by omega) (.inl rfl) b2 b3 (by rw [Sp.parts_empty]; exact b4) (by have := LB2.out; omega) h (KK2.out.ext (B4.out.trans e))
          have OA := Lib.hid (show Sp.Ok (oa.getD .nil) ∧ Sp.sizeT (oa.getD .nil) ≤ 128 from ⟨PA.out.ok, PA.out.size⟩)
          have OB := Lib.hid (show Sp.Ok (ob.getD .nil) ∧ Sp.sizeT (ob.getD .nil) ≤ 128 from ⟨PB.out.ok, PB.out.size⟩)
          have OA2 := Lib.hid (show Sp.Ok (Sp.showT (oa.getD .nil)) ∧ Sp.sizeT (Sp.showT (oa.getD .nil)) ≤ 128 from ⟨a2, a3⟩)
          have OB2 := Lib.hid (show Sp.Ok (Sp.showT (ob.getD .nil)) ∧ Sp.sizeT (Sp.showT (ob.getD .nil)) ≤ 128 from ⟨b2, b3⟩)
          obtain ⟨s1, hs1⟩ : ∃ s1, s1 = Sp.nsum (Sp.nodeT (Sp.showT (oa.getD .nil))) := ⟨_, rfl⟩
          obtain ⟨s2, hs2⟩ : ∃ s2, s2 = Sp.nsum (Sp.nodeT (Sp.showT (ob.getD .nil))) := ⟨_, rfl⟩
          obtain ⟨r1, hr1⟩ : ∃ r1, r1 = Sp.nsum (Sp.nodeT (oa.getD .nil)) := ⟨_, rfl⟩
          obtain ⟨r2, hr2⟩ : ∃ r2, r2 = Sp.nsum (Sp.nodeT (ob.getD .nil)) := ⟨_, rfl⟩
          have hqs := fun W => dig_eqv s1 s2 (by rw [hs1]; exact Sp.nsum_len _) (by rw [hs2]; exact Sp.nsum_len _) W
          have hqr := fun W => dig_eqv r1 r2 (by rw [hr1]; exact Sp.nsum_len _) (by rw [hr2]; exact Sp.nsum_len _) W
          have hg := dig_guard
          rw [← hs1, ← hs2] at P1 P3
          rw [← hr1, ← hr2] at P2
          rw [← hs1] at NA
          rw [← hs2] at NB
          rw [← hr1] at RA
          rw [← hr2] at RB
          obtain ⟨xa, hxa⟩ : ∃ xa, xa = Sp.shownM ma := ⟨_, rfl⟩
          obtain ⟨xb, hxb⟩ : ∃ xb, xb = Sp.shownM mb := ⟨_, rfl⟩
          rw [← hxa] at SA YA SAB P1 P3
          rw [← hxb] at SB YB SAB P1 P3
          obtain ⟨pa, rfl⟩ := tree_ptr TA.out
          obtain ⟨pb, rfl⟩ := tree_ptr TB.out
          have QS := Lib.hid hqs
          have QR := Lib.hid hqr
          clear a2 a3 a4 b2 b3 b4 hs1 hs2 hr1 hr2 hxa hxb PA PB wa wb fa fb hqs hqr
          go_wp2_with fail
          refine (EA.out w4 (Ext.refl _)).mono ?_
          rintro e w5 ⟨A5, c5, rfl, hE5, hb5⟩
          have E5 := Lib.hid hE5
          have B5 := Lib.hid hb5
          clear hE5 hb5
          go_wp2_with fail
          refine (EB.out w5 B5.out).mono ?_
          rintro e w6 ⟨A6, c6, rfl, hE6, hb6⟩
          have EY := Lib.hid hE6
          have EX := Lib.hid (E5.out.ext hb6)
          have B6 := Lib.hid (B5.out.trans hb6)
          clear hE6 hb6 E5 EA EB
          go_upto_region 8 with fail
          go_cut [50] (fun v50 wx => v50 = .bool false ∧ Ext w6 wx)
          case first =>
            go_wp2_with fail
            refine (SA.out A5 c5 w6 EX.out).mono ?_
            rintro e w7 ⟨A7, c7, rfl, hE7, hb7⟩
            have E7 := Lib.hid hE7
            have B7 := Lib.hid hb7
            clear hE7 hb7
            go_wp2_with fail
            refine (SB.out A6 c6 w7 (EY.out.ext B7.out)).mono ?_
            rintro e w8 ⟨A8, c8, rfl, hE8, hb8⟩
            have E8 := Lib.hid hE8
            have E78 := Lib.hid (E7.out.ext hb8)
            have B8 := Lib.hid (B7.out.trans hb8)
            clear hE8 hb8
            go_wp2_with fail
            refine (SAB.out A7 A8 c7 c8 w8 E78.out E8.out).mono ?_
            rintro e w9 ⟨rfl, hb9⟩
            have B9 := Lib.hid (B8.out.trans hb9)
            clear hb9
            by_cases hsh : xa = xb
            · have hss := P1.out hsh
              rw [decide_eq_true hsh]
              have hq := QS.out
              rw [show (s1 == s2) = true by rw [hss]; exact beq_self_eq_true _] at hq
              have HSS := Lib.hid hss
              clear hsh hss
              go_wp2_with fail
              refine (NA.out w9 (B6.out.trans B9.out)).mono ?_
              rintro e w10 ⟨rfl, hb10⟩
              have B10 := Lib.hid (B9.out.trans hb10)
              clear hb10
              go_wp2_with fail
              refine (NB.out w10 (B6.out.trans B10.out)).mono ?_
              rintro e w11 ⟨rfl, hb11⟩
              have B11 := Lib.hid (B10.out.trans hb11)
              clear hb11
              go_wp2
              go_meet
              case rel => exact ⟨rfl, B11.out⟩
            · rw [decide_eq_false hsh]
              clear hsh
              go_wp2
              go_meet
              case rel => exact ⟨rfl, B9.out⟩
          case rest =>
            obtain ⟨rfl, hbx⟩ := hcut
            obtain ⟨wx, hwx⟩ : ∃ wx, wx = wc := ⟨_, rfl⟩
            rw [← hwx] at hbx ⊢
            have BX := Lib.hid (B6.out.trans hbx)
            have EX2 := Lib.hid (EX.out.ext hbx)
            have EY2 := Lib.hid (EY.out.ext hbx)
            clear hbx hwx EX EY
            go_upto_region 10 with fail
            go_cut [61] (fun v61 wy => v61 = .bool (decide (r1 = r2) && !decide (ma = mb)) ∧ Ext wx wy)
            case first =>
              go_wp2_with fail
              refine (RA.out wx BX.out).mono ?_
              rintro e w7 ⟨rfl, hb7⟩
              have B7 := Lib.hid hb7
              clear hb7
              go_wp2_with fail
              refine (RB.out w7 (BX.out.trans B7.out)).mono ?_
              rintro e w8 ⟨rfl, hb8⟩
              have B8 := Lib.hid (B7.out.trans hb8)
              clear hb8
              have hq := QR.out
              by_cases hrr : r1 = r2
              · rw [show (r1 == r2) = true by rw [hrr]; exact beq_self_eq_true _] at hq
                have D1 := Lib.hid (show decide (r1 = r2) = true from decide_eq_true hrr)
                clear hrr
                go_wp2_with fail
                refine (TS.out w8 (BX.out.trans B8.out)).mono ?_
                rintro e w9 ⟨rfl, hb9⟩
                have B9 := Lib.hid (B8.out.trans hb9)
                obtain ⟨dm, hdm⟩ : ∃ dm, dm = decide (ma = mb) := ⟨_, rfl⟩
                rw [← hdm]
                have HDM := Lib.hid hdm
                clear hb9 hdm
                go_wp2
                go_meet
                case rel => exact ⟨by rw [D1.out, Bool.true_and, ← HDM.out], B9.out⟩
              · rw [show (r1 == r2) = false by rw [beq_eq_false_iff_ne]; exact hrr] at hq
                have D1 := Lib.hid (show decide (r1 = r2) = false from decide_eq_false hrr)
                clear hrr
                go_wp2
                go_meet
                case rel => exact ⟨by rw [D1.out, Bool.false_and], B8.out⟩
            case rest =>
              obtain ⟨rfl, hby⟩ := hcut
              obtain ⟨wy, hwy⟩ : ∃ wy, wy = wc := ⟨_, rfl⟩
              rw [← hwy] at hby ⊢
              have BY := Lib.hid (BX.out.trans hby)
              have EX3 := Lib.hid (EX2.out.ext hby)
              have EY3 := Lib.hid (EY2.out.ext hby)
              clear hby hwy EX2 EY2
              by_cases hcl : r1 = r2 ∧ ma ≠ mb
              · rw [show (decide (r1 = r2) && !decide (ma = mb)) = true by rw [decide_eq_true hcl.1, decide_eq_false hcl.2]; rfl]
                have EXq := EX3
                have EYq := EY3
                have BYq := BY
                obtain ⟨ta, hta⟩ : ∃ ta, ta = Sp.textsT (oa.getD .nil) := ⟨_, rfl⟩
                obtain ⟨tb, htb⟩ : ∃ tb, tb = Sp.textsT (ob.getD .nil) := ⟨_, rfl⟩
                have KC := Lib.hid (show Sp.clashS (ta ++ tb) = true by rw [hta, htb]; exact P2.out hcl.1 hcl.2)
                have LTA := Lib.hid (show ta.length ≤ 513 by rw [hta]; exact LA.out)
                have LTB := Lib.hid (show tb.length ≤ 513 by rw [htb]; exact LB.out)
                have KS := Lib.hid (show ∀ x ∈ ta ++ tb, x.length ≤ 4000000000 from fun x hx => by
                  rcases List.mem_append.1 hx with hx | hx
                  · rw [hta] at hx; exact Sp.texts_short _ OA.out.1 OA.out.2 _ hx
                  · rw [htb] at hx; exact Sp.texts_short _ OB.out.1 OB.out.2 _ hx)
                rw [← hta] at XA
                rw [← htb] at XB
                clear hta htb hcl
                go_wp2_with fail
                refine (XA.out A5 c5 _ EXq.out BYq.out).mono ?_
                rintro e w7 ⟨v7, rfl, hO7, hb7⟩
                have O7 := Lib.hid hO7
                have B7 := Lib.hid hb7
                clear hO7 hb7
                go_wp2_with fail
                refine (XB.out A6 c6 w7 (EYq.out.ext B7.out) (BYq.out.trans B7.out)).mono ?_
                rintro e w8 ⟨v8, rfl, hO8, hb8⟩
                obtain ⟨A8, c8, rfl, hc8⟩ := own_read hO8
                have C8 := Lib.hid (show Cells w8 A8 (strsC tb) from hc8)
                have O78 := Lib.hid (own_ext O7.out hb8)
                have B8 := Lib.hid (B7.out.trans hb8)
                clear hO8 hb8 hc8
                have tokA : True := trivial
                go_wp2_with (have _t := tokA; at_builtin; refine app_cells appStr rfl _ _ rfl _ v7 ta.length _ rfl O78.out A8 tb.length c8 (strsC tb) rfl (by rw [tstr_len, Nat.mul_one]) C8.out (tstr_one tb) (by have := LTA.out; have := LTB.out; omega) B8.out.size ?_; intro v9 w9 hown9 hgr9 hb9; rw [← List.length_append, ← tstr_cat] at hown9; obtain ⟨A9, c9, hv9, hc9⟩ := own_read hown9; subst hv9; have N9 := Lib.hid (show Nams w9 A9 (ta ++ tb) from hc9); have B9 := Lib.hid (show Ext _ w9 from Below.trans B8.out hb9); clear tokA _t hown9 hgr9 hb9 hc9)
                have G1 := Lib.hid (KK2.out.ext (B4.out.trans (BYq.out.trans B9.out)))
                have G2 := Lib.hid (show (ta ++ tb).length ≤ 2000 by rw [List.length_append]; have := LTA.out; have := LTB.out; omega)
                have G3 := Lib.hid (rclash_calls (ta ++ tb) A9 c9 w9 N9.out G2.out KS.out KC.out G1.out)
                rw [List.length_append] at G3
                refine G3.out.mono ?_
                rintro e w10 ⟨rfl, hb10⟩
                go_wp2
                go_ret
                exact ⟨rfl, (B4.out.trans (BYq.out.trans B9.out)).trans hb10⟩
              · rw [show (decide (r1 = r2) && !decide (ma = mb)) = false by
                  by_cases h : r1 = r2
                  · have h2 : ma = mb := Decidable.byContradiction fun h2 => hcl ⟨h, h2⟩
                    rw [decide_eq_true h2]; simp
                  · rw [decide_eq_false h]; rfl]
                clear hcl
                go_upto_region 12 with fail
                go_cut [80] (fun v80 wz => v80 = .bool (decide (s1 = s2) && !decide (xa = xb)) ∧ Ext wy wz)
                case first =>
                  go_wp2_with fail
                  refine (NA.out wy BY.out).mono ?_
                  rintro e w7 ⟨rfl, hb7⟩
                  have B7 := Lib.hid hb7
                  clear hb7
                  go_wp2_with fail
                  refine (NB.out w7 (BY.out.trans B7.out)).mono ?_
                  rintro e w8 ⟨rfl, hb8⟩
                  have B8 := Lib.hid (B7.out.trans hb8)
                  clear hb8
                  have hq := QS.out
                  by_cases hrr : s1 = s2
                  · rw [show (s1 == s2) = true by rw [hrr]; exact beq_self_eq_true _] at hq
                    have D1 := Lib.hid (show decide (s1 = s2) = true from decide_eq_true hrr)
                    clear hrr
                    go_wp2_with fail
                    refine (SA.out A5 c5 w8 (EX3.out.ext B8.out)).mono ?_
                    rintro e w9 ⟨A9, c9, rfl, hE9, hb9⟩
                    have E9 := Lib.hid hE9
                    have B9 := Lib.hid (B8.out.trans hb9)
                    clear hE9 hb9
                    go_wp2_with fail
                    refine (SB.out A6 c6 w9 (EY3.out.ext B9.out)).mono ?_
                    rintro e w10 ⟨A10, c10, rfl, hE10, hb10⟩
                    have E10 := Lib.hid hE10
                    have E910 := Lib.hid (E9.out.ext hb10)
                    have B10 := Lib.hid (B9.out.trans hb10)
                    clear hE10 hb10
                    go_wp2_with fail
                    refine (SAB.out A9 A10 c9 c10 w10 E910.out E10.out).mono ?_
                    rintro e w11 ⟨rfl, hb11⟩
                    have B11 := Lib.hid (B10.out.trans hb11)
                    obtain ⟨dm, hdm⟩ : ∃ dm, dm = decide (xa = xb) := ⟨_, rfl⟩
                    rw [← hdm]
                    have HDM := Lib.hid hdm
                    clear hb11 hdm
                    go_wp2
                    go_meet
                    case rel => exact ⟨by rw [D1.out, Bool.true_and, ← HDM.out], B11.out⟩
                  · rw [show (s1 == s2) = false by rw [beq_eq_false_iff_ne]; exact hrr] at hq
                    have D1 := Lib.hid (show decide (s1 = s2) = false from decide_eq_false hrr)
                    clear hrr
                    go_wp2
                    go_meet
                    case rel => exact ⟨by rw [D1.out, Bool.false_and], B8.out⟩
                case rest =>
                  obtain ⟨rfl, hbz⟩ := hcut
                  obtain ⟨wz, hwz⟩ : ∃ wz, wz = wc := ⟨_, rfl⟩
                  rw [← hwz] at hbz ⊢
                  have BZ := Lib.hid (BY.out.trans hbz)
                  have EX4 := Lib.hid (EX3.out.ext hbz)
                  have EY4 := Lib.hid (EY3.out.ext hbz)
                  clear hbz hwz EX3 EY3
                  by_cases hcl : s1 = s2 ∧ xa ≠ xb
                  · rw [show (decide (s1 = s2) && !decide (xa = xb)) = true by rw [decide_eq_true hcl.1, decide_eq_false hcl.2]; rfl]
                    have EXq := EX4
                    have EYq := EY4
                    have BYq := BZ
                    obtain ⟨ta, hta⟩ : ∃ ta, ta = Sp.textsT (Sp.showT (oa.getD .nil)) := ⟨_, rfl⟩
                    obtain ⟨tb, htb⟩ : ∃ tb, tb = Sp.textsT (Sp.showT (ob.getD .nil)) := ⟨_, rfl⟩
                    have KC := Lib.hid (show Sp.clashS (ta ++ tb) = true by rw [hta, htb]; exact P3.out hcl.1 hcl.2)
                    have LTA := Lib.hid (show ta.length ≤ 513 by rw [hta]; exact LA2.out)
                    have LTB := Lib.hid (show tb.length ≤ 513 by rw [htb]; exact LB2.out)
                    have KS := Lib.hid (show ∀ x ∈ ta ++ tb, x.length ≤ 4000000000 from fun x hx => by
                      rcases List.mem_append.1 hx with hx | hx
                      · rw [hta] at hx; exact Sp.texts_short _ OA2.out.1 OA2.out.2 _ hx
                      · rw [htb] at hx; exact Sp.texts_short _ OB2.out.1 OB2.out.2 _ hx)
                    rw [← hta] at YA
                    rw [← htb] at YB
                    clear hta htb hcl
                    go_wp2_with fail
                    refine (SA.out A5 c5 _ EXq.out).mono ?_
                    rintro e w5 ⟨A9, c9, rfl, hE9, hb5⟩
                    have E9 := Lib.hid hE9
                    have B5q := Lib.hid hb5
                    clear hE9 hb5
                    go_wp2_with fail
                    refine (YA.out A9 c9 w5 E9.out (BYq.out.trans B5q.out)).mono ?_
                    rintro e w6 ⟨v7, rfl, hO7, hb7⟩
                    have O6 := Lib.hid hO7
                    have B6q := Lib.hid (B5q.out.trans hb7)
                    have O56 := Lib.hid (show Ext w5 w6 from hb7)
                    clear hO7 hb7
                    go_wp2_with fail
                    refine (SB.out A6 c6 w6 (EYq.out.ext B6q.out)).mono ?_
                    rintro e w7 ⟨A10, c10, rfl, hE10, hb7⟩
                    have E10 := Lib.hid hE10
                    have O7 := Lib.hid (own_ext O6.out hb7)
                    have B7 := Lib.hid (B6q.out.trans hb7)
                    have O5q := Lib.hid (show Ext w5 w7 from O56.out.trans hb7)
                    clear hE10 hb7
                    go_wp2_with fail
                    refine (YB.out A10 c10 w7 E10.out (BYq.out.trans B7.out)).mono ?_
                    rintro e w8 ⟨v8, rfl, hO8, hb8⟩
                    obtain ⟨A8, c8, rfl, hc8⟩ := own_read hO8
                    have C8 := Lib.hid (show Cells w8 A8 (strsC tb) from hc8)
                    have O78 := Lib.hid (own_ext O7.out hb8)
                    have B8 := Lib.hid (B7.out.trans hb8)
                    have B78 := Lib.hid (show Ext w5 w8 from (O5q.out).trans hb8)
                    clear hO8 hb8 hc8
                    have tokA : True := trivial
                    go_wp2_with (have _t := tokA; at_builtin; refine app_cells appStr rfl _ _ rfl _ v7 ta.length _ rfl O78.out A8 tb.length c8 (strsC tb) rfl (by rw [tstr_len, Nat.mul_one]) C8.out (tstr_one tb) (by have := LTA.out; have := LTB.out; omega) (by have := B8.out.size; have := B5q.out.size; have := B78.out.size; omega) ?_; intro v9 w9 hown9 hgr9 hb9; rw [← List.length_append, ← tstr_cat] at hown9; obtain ⟨A9, c9, hv9, hc9⟩ := own_read hown9; subst hv9; have N9 := Lib.hid (show Nams w9 A9 (ta ++ tb) from hc9); have B9 := Lib.hid (show Ext _ w9 from Below.trans B8.out (hb9.mono B5q.out.size)); clear tokA _t hown9 hgr9 hb9 hc9)
                    have G1 := Lib.hid (KK2.out.ext (B4.out.trans (BYq.out.trans B9.out)))
                    have G2 := Lib.hid (show (ta ++ tb).length ≤ 2000 by rw [List.length_append]; have := LTA.out; have := LTB.out; omega)
                    have G3 := Lib.hid (rclash_calls (ta ++ tb) A9 c9 w9 N9.out G2.out KS.out KC.out G1.out)
                    rw [List.length_append] at G3
                    refine G3.out.mono ?_
                    rintro e w10 ⟨rfl, hb10⟩
                    go_wp2
                    go_ret
                    exact ⟨rfl, (B4.out.trans (BYq.out.trans B9.out)).trans hb10⟩
                  · rw [show (decide (s1 = s2) && !decide (xa = xb)) = false by
                      by_cases h : s1 = s2
                      · have h2 : xa = xb := Decidable.byContradiction fun h2 => hcl ⟨h, h2⟩
                        rw [decide_eq_true h2]; simp
                      · rw [decide_eq_false h]; rfl]
                    clear hcl
                    go_wp2_with fail
                    refine (AW.out wz (B4.out.trans BZ.out)).mono ?_
                    rintro e w9 ⟨rfl, hb9⟩
                    go_wp2
                    go_ret
                    exact ⟨rfl, (B4.out.trans BZ.out).trans hb9⟩
        · have c1 : (cb != 0) = true := by rw [bne_iff_ne]; exact hb0
          subst ha0
          clear hb0
          go_wp2_with fail
          refine (AW.out w4 B4.out).mono ?_
          rintro e w5 ⟨rfl, hb5⟩
          go_wp2
          go_ret
          exact ⟨rfl, B4.out.trans hb5⟩
      · have c1 : (ca != 0) = true := by rw [bne_iff_ne]; exact ha0
        clear ha0
        go_wp2_with fail
        refine (AW.out w4 B4.out).mono ?_
        rintro e w5 ⟨rfl, hb5⟩
        go_wp2
        go_ret
        exact ⟨rfl, B4.out.trans hb5⟩
end Go.Proofs.YtmlkachfahabnaaGreatDoor
