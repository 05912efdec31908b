/- Walks: the example of chapter 28. Walks: whether two lists of entries are the same: the document's. Walks: whether two trees are the same. -/
import Derived.Test.YtedjiaenodechaaGreatDoorPP44
import Derived.Test.YtedjiaenodechaaGreatDoorPP37
import Derived.Test.YtedjiaenodechaaGreatDoorPP12
import Derived.Test.YtedjiaenodechaaGreatDoorPP40
import Derived.Deep.DeepCutAuto
namespace Go.Proofs.YtedjiaenodechaaGreatDoor
open Go.RowKit Go.Shelf
attribute [local go_sem] yUpon strOf_toList
theorem PinsAt.ext {g : Nat} {w w' : World} {ps : List Pin} (h : PinsAt g w ps) (e : Ext w w') : PinsAt g w' ps := by
  obtain ⟨v, h1, h2, h3⟩ := h
  exact ⟨v, h1.below e, own_ext h2 e, fun x hx => ⟨(h3 x hx).1.ext e, (h3 x hx).2⟩⟩
theorem PinsAt.keys {g k : Nat} {w w' : World} {ps : List Pin} (h : PinsAt g w ps) (e : Only g w w') (K : KeysAt w k) : KeysAt w' k := by
  obtain ⟨v, h1, h2, h3⟩ := h
  exact keys_only K e h1 (row_sl h2)
theorem PinsAt.max {g : Nat} {w w' : World} {ps : List Pin} (h : PinsAt g w ps) (e : Only g w w') (K : MaxAt w) : MaxAt w' := by
  obtain ⟨v, h1, h2, h3⟩ := h
  exact max_only K e h1 (row_sl h2)
theorem PinsAt.lt {g : Nat} {w : World} {ps : List Pin} (h : PinsAt g w ps) : g < w.heap.size := by
  obtain ⟨v, h1, h2, h3⟩ := h
  exact h1.lt
theorem pins_new (w : World) (g : Nat) (h : isBlk w g 62 #[.slice none 0 0]) : PinsAt g w [] := ⟨_, h, World.ownsRow_nil _ _ _ _, fun x hx => by cases hx⟩
set_option maxRecDepth 100000 in
set_option maxHeartbeats 4000000 in
theorem awake28_calls (w : World) (K : KeysAt w 2) (M : MaxAt w) :
    Calls Tryz.prog 21 #[] w fun e w' => e = .returned (.bool true) ∧ Ext w w' := by
  have KK := Lib.hid K
  have MM := Lib.hid M
  have tok1 : True := trivial
  obtain ⟨o, ho⟩ : ∃ o, o = Sp.treeK 1 := ⟨_, rfl⟩
  have TC := Lib.hid (show ∀ W, KeysAt W 2 → MaxAt W → Calls Tryz.prog 18 #[.int .i64 1] W fun e w' => ∃ a, e = .returned (.pointer a) ∧ TreeAt w' (.pointer a) o ∧ Ext W w' from fun W K M => by
    have := trees_calls 1 W (by decide) K M
    rw [show Sp.tN 1 = 1 from by decide, ← ho] at this
    exact this)
  have L1 := Lib.hid (show (Sp.entriesO o).length = 1 by rw [ho]; exact Sp.tree_len 1)
  obtain ⟨d, hd⟩ : ∃ d, d = Sp.nsum (Sp.nodeT (o.getD .nil)) := ⟨_, rfl⟩
  have DD := Lib.hid (show d.length = 32 by rw [hd]; exact Sp.nsum_len _)
  have RT := Lib.hid fun v W (h : TreeAt W v o) (K : KeysAt W 2) => troot_calls o v W h K
  rw [← hd] at RT
  have DG := Lib.hid (show ∀ a n, dgP (a, o, n) = d from fun a n => hd.symm)
  have S1 := Lib.hid (show ∀ a, putS (a, o) (clampS 0) [] = [(a, o, 0)] from fun a => rfl)
  have UK := Lib.hid (show ∀ a n, useK d [(a, o, n)] = some 0 from fun a n => by
    unfold useK
    rw [List.findIdx?_cons, DG.out]
    simp)
  have S2 := Lib.hid (show ∀ a, foundV d (clampS 99) [(a, o, 0)] = .tuple #[.pointer a, .bool true] ∧ findP d (clampS 99) [(a, o, 0)] = [(a, o, 99)] from fun a => by
    have e1 : oldS (clampS 99) [(a, o, 0)] = [(a, o, 0)] := rfl
    constructor
    · unfold foundV; rw [e1, UK.out]; rfl
    · unfold findP useP; rw [e1, UK.out]; rfl)
  have S3 := Lib.hid (show ∀ a, foundV d (clampS 198) [(a, o, 99)] = .tuple #[.pointer a, .bool true] ∧ findP d (clampS 198) [(a, o, 99)] = [(a, o, 198)] from fun a => by
    have e1 : oldS (clampS 198) [(a, o, 99)] = [(a, o, 99)] := rfl
    constructor
    · unfold foundV; rw [e1, UK.out]; rfl
    · unfold findP useP; rw [e1, UK.out]; rfl)
  have S4 := Lib.hid (show ∀ a, foundV d (clampS 298) [(a, o, 198)] = .tuple #[.pointer none, .bool false] ∧ findP d (clampS 298) [(a, o, 198)] = [] from fun a => by
    have e1 : oldS (clampS 298) [(a, o, 198)] = [] := rfl
    constructor
    · unfold foundV; rw [e1]; rfl
    · unfold findP useP; rw [e1]; rfl)
  have S5 := Lib.hid (show (oldS (clampS 0) ([] : List Pin)).length = 0 from rfl)
  clear K M ho hd
  go_enter Tryz.func21, Tryz.ntmps21
  go_upto_region 2 with (have _t := tok1; ((with_reducible refine at_box (t := 62) rfl ?_); refine box_new rfl (cs := #[.slice none 0 0]) (t := 62) (by first | (go_simp; done) | (go_simp; rfl)) ?_; intro g w2 hg2 hx2 hb2; have P2 := Lib.hid (pins_new w2 g hx2); have B2 := Lib.hid (show Ext w w2 from hb2); have GG := Lib.hid hg2; clear tok1 _t hx2 hb2 hg2))
  go_wp2_with fail
  refine (TC.out w2 (KK.out.ext B2.out) (max_kept MM.out B2.out)).mono ?_
  rintro e w3 ⟨a3, rfl, ht3, hb3⟩
  have E3 := Lib.hid (B2.out.trans hb3)
  have PC := Lib.hid (put_calls g [] a3 o 0 w3 (P2.out.ext hb3) (by decide) ht3 (KK.out.ext E3.out))
  rw [S1.out] at PC
  have P3 := Lib.hid (P2.out.ext hb3)
  clear ht3 hb3
  go_wp2_with fail
  refine PC.out.mono ?_
  rintro e w4 ⟨rfl, hp4, ho4⟩
  have P4 := Lib.hid hp4
  have K4 := Lib.hid (P3.out.keys ho4 (KK.out.ext E3.out))
  have M4 := Lib.hid (P3.out.max ho4 (max_kept MM.out E3.out))
  have N4 := Lib.hid (show Below w.heap.size w w4 from Below.trans E3.out (ho4.below GG.out E3.out.size))
  clear hp4 ho4
  go_wp2_with fail
  refine (TC.out w4 K4.out M4.out).mono ?_
  rintro e w5 ⟨a5, rfl, ht5, hb5⟩
  have T5 := Lib.hid ht5
  have K5 := Lib.hid (K4.out.ext hb5)
  have M5 := Lib.hid (max_kept M4.out hb5)
  have P5 := Lib.hid (P4.out.ext hb5)
  have N5 := Lib.hid (N4.out.trans (hb5.mono N4.out.size))
  clear ht5 hb5
  go_wp2_with fail
  refine (RT.out _ w5 T5.out K5.out).mono ?_
  rintro e w6 ⟨rfl, hb6⟩
  have K6 := Lib.hid (K5.out.ext hb6)
  have M6 := Lib.hid (max_kept M5.out hb6)
  have P6 := Lib.hid (P5.out.ext hb6)
  have N6 := Lib.hid (N5.out.trans (hb6.mono N5.out.size))
  have FC := Lib.hid (pfind_calls g _ d DD.out 99 w6 P6.out (by simp) K6.out)
  rw [(S2.out a3).1, (S2.out a3).2] at FC
  clear hb6
  go_wp2_with fail
  refine FC.out.mono ?_
  rintro e w7 ⟨rfl, hp7, ho7⟩
  have P7 := Lib.hid hp7
  have K7 := Lib.hid (P6.out.keys ho7 K6.out)
  have M7 := Lib.hid (P6.out.max ho7 M6.out)
  have N7 := Lib.hid (show Below w.heap.size w w7 from N6.out.trans (ho7.below GG.out N6.out.size))
  clear hp7 ho7
  go_wp2_with fail
  refine (TC.out w7 K7.out M7.out).mono ?_
  rintro e w8 ⟨a8, rfl, ht8, hb8⟩
  have T8 := Lib.hid ht8
  have K8 := Lib.hid (K7.out.ext hb8)
  have M8 := Lib.hid (max_kept M7.out hb8)
  have P8 := Lib.hid (P7.out.ext hb8)
  have N8 := Lib.hid (N7.out.trans (hb8.mono N7.out.size))
  clear ht8 hb8
  go_wp2_with fail
  refine (RT.out _ w8 T8.out K8.out).mono ?_
  rintro e w9 ⟨rfl, hb9⟩
  have K9 := Lib.hid (K8.out.ext hb9)
  have M9 := Lib.hid (max_kept M8.out hb9)
  have P9 := Lib.hid (P8.out.ext hb9)
  have N9 := Lib.hid (N8.out.trans (hb9.mono N8.out.size))
  have FC9 := Lib.hid (pfind_calls g _ d DD.out 198 w9 P9.out (by simp) K9.out)
  rw [(S3.out a3).1, (S3.out a3).2] at FC9
  clear hb9
  go_wp2_with fail
  refine FC9.out.mono ?_
  rintro e w10 ⟨rfl, hp10, ho10⟩
  have P10 := Lib.hid hp10
  have K10 := Lib.hid (P9.out.keys ho10 K9.out)
  have M10 := Lib.hid (P9.out.max ho10 M9.out)
  have N10 := Lib.hid (show Below w.heap.size w w10 from N9.out.trans (ho10.below GG.out N9.out.size))
  clear hp10 ho10
  go_wp2_with fail
  refine (TC.out w10 K10.out M10.out).mono ?_
  rintro e w11 ⟨a11, rfl, ht11, hb11⟩
  have T11 := Lib.hid ht11
  have K11 := Lib.hid (K10.out.ext hb11)
  have M11 := Lib.hid (max_kept M10.out hb11)
  have P11 := Lib.hid (P10.out.ext hb11)
  have N11 := Lib.hid (N10.out.trans (hb11.mono N10.out.size))
  clear ht11 hb11
  go_wp2_with fail
  refine (RT.out _ w11 T11.out K11.out).mono ?_
  rintro e w12 ⟨rfl, hb12⟩
  have K12 := Lib.hid (K11.out.ext hb12)
  have M12 := Lib.hid (max_kept M11.out hb12)
  have P12 := Lib.hid (P11.out.ext hb12)
  have N12 := Lib.hid (N11.out.trans (hb12.mono N11.out.size))
  have FC12 := Lib.hid (pfind_calls g _ d DD.out 298 w12 P12.out (by simp) K12.out)
  rw [(S4.out a3).1, (S4.out a3).2] at FC12
  clear hb12
  go_wp2_with fail
  refine FC12.out.mono ?_
  rintro e w13 ⟨rfl, hp13, ho13⟩
  have P13 := Lib.hid hp13
  have K13 := Lib.hid (P12.out.keys ho13 K12.out)
  have M13 := Lib.hid (P12.out.max ho13 M12.out)
  have N13 := Lib.hid (show Below w.heap.size w w13 from N12.out.trans (ho13.below GG.out N12.out.size))
  have LC := Lib.hid (plen_calls g [] 0 w13 hp13 (by decide))
  rw [S5.out] at LC
  clear hp13 ho13
  go_wp2_with fail
  refine LC.out.mono ?_
  rintro e w14 ⟨rfl, hp14, ho14⟩
  have K14 := Lib.hid (P13.out.keys ho14 K13.out)
  have M14 := Lib.hid (P13.out.max ho14 M13.out)
  have N14 := Lib.hid (show Below w.heap.size w w14 from N13.out.trans (ho14.below GG.out N13.out.size))
  clear hp14 ho14
  go_wp2_with fail
  refine (TC.out w14 K14.out M14.out).mono ?_
  rintro e w15 ⟨a15, rfl, ht15, hb15⟩
  have LN := Lib.hid (len_calls o (.pointer a15) w15 ht15 (K14.out.ext hb15))
  rw [L1.out] at LN
  have N15 := Lib.hid (N14.out.trans (hb15.mono N14.out.size))
  clear ht15 hb15
  go_wp2_with fail
  refine LN.out.mono ?_
  rintro e w16 ⟨rfl, hb16⟩
  have N16 := Lib.hid (N15.out.trans (hb16.mono N15.out.size))
  clear hb16
  go_wp2
  go_ret
  exact ⟨rfl, N16.out⟩
end Go.Proofs.YtedjiaenodechaaGreatDoor
namespace Go.Proofs.YtedjiaenodechaaGreatDoor
open Go.RowKit Go.Shelf
attribute [local go_sem] yUpon strOf_toList
theorem drop_eq_cons {α : Type} {l m : List α} {k : Nat} (h : k < l.length) (h' : k < m.length) : (l.drop k = m.drop k) = (l[k] = m[k] ∧ l.drop (k + 1) = m.drop (k + 1)) := by
  rw [List.drop_eq_getElem_cons h, List.drop_eq_getElem_cons h', List.cons.injEq]
set_option maxRecDepth 100000 in
set_option maxHeartbeats 4000000 in
theorem esame_calls (l m : List Sp.DE) (A B : Option Addr) (cap cap' : Nat) (w : World) (h : EntsAt w A l) (h' : EntsAt w B m) (hl : l.length ≤ 1000000) (hs : ∀ e ∈ l, e.2.length ≤ 1000000) :
    Calls Tryz.prog 22 #[.slice A l.length cap, .slice B m.length cap'] w fun e w' => e = .returned (.bool (decide (l = m))) ∧ Ext w w' := by
  have HH := Lib.hid h
  have HH' := Lib.hid h'
  have HS := Lib.hid hs
  clear h h' hs
  by_cases hlm : l.length = m.length
  · have b1 : ((l.length : Int) != (m.length : Int)) = false := by rw [hlm]; simp
    have HL := Lib.hid hlm
    clear hlm
    go_enter Tryz.func22, Tryz.ntmps22
    go_wp2
    go_loopw [5] (fun v5 wr => ∃ k : Nat, k ≤ l.length ∧ v5 = .int .i64 k ∧ (l = m) = (l.drop k = m.drop k) ∧ Ext w wr) (fun v5 _ => l.length - (intOf v5).toNat)
    case atStart => exact ⟨0, Nat.zero_le _, rfl, rfl, Ext.refl _⟩
    case round =>
      obtain ⟨k, hk, rfl, hv, hb⟩ := hrel
      by_cases hlt : k < l.length
      · have hlt' : k < m.length := by have := HL.out; omega
        obtain ⟨g, o, rfl, hc⟩ := (HH.out.ext hb).at (by omega)
        obtain ⟨g', o', rfl, hc'⟩ := (HH'.out.ext hb).at (by omega)
        obtain ⟨Av, cv, c0, c1, hvv⟩ := hc k hlt
        obtain ⟨Bv, dv, d0, d1, hvv'⟩ := hc' k hlt'
        rw [drop_eq_cons hlt hlt'] at hv
        have hls := HS.out _ (List.getElem_mem hlt)
        obtain ⟨x, hx⟩ : ∃ x, x = l[k] := ⟨_, rfl⟩
        obtain ⟨y, hy⟩ : ∃ y, y = m[k] := ⟨_, rfl⟩
        rw [← hx] at c0 c1 hv hvv hls
        rw [← hy] at d0 d1 hv hvv'
        have HV := Lib.hid hv
        have HB := Lib.hid hb
        have C0 := Lib.hid c0
        have C1 := Lib.hid c1
        have D0 := Lib.hid d0
        have D1 := Lib.hid d1
        have b2 : (k : Int) < (l.length : Int) := by omega
        have b3 : (k : Int) < (m.length : Int) := by omega
        have CS := Lib.hid fun W (e : Ext wr W) => rsame_calls x.2 y.2 Av Bv cv dv W (hvv.ext e) (hvv'.ext e) (by omega)
        clear hv hb hc hc' c0 c1 d0 d1 hvv hvv' hx hy hls
        go_wp2_with fail
        by_cases hp : x.1 = y.1
        · have e1 : (x.1 == y.1) = true := by rw [hp]; exact beq_self_eq_true _
          have HP := Lib.hid hp
          clear hp
          refine wp_region_det (fun W => Ext wr W) (by kernel_rfl) (by kernel_rfl) (Below.refl _ _).drew ?_
          repeat (first
            | (refine det_step (fun K hK => ?_)
               apply Exists.intro
               refine ⟨Or.inl ⟨rfl, fun W hS => ?_⟩, ?_⟩
               · replace hS : Ext wr W := hS
                 have f0 := hS.cell C0.out; have f1 := hS.cell C1.out; have z0 := hS.cell D0.out; have z1 := hS.cell D1.out
                 go_simp
                 first
                 | exact rfl
                 | exact ⟨rfl, hS⟩
                 | (refine (CS.out W hS).mono ?_; rintro e w1 ⟨rfl, hb1⟩; exact ⟨rfl, hS.trans hb1⟩)
               go_simp
               refine hK _ ?_
               clear hK K)
            | (refine det_step (fun K hK => ?_); refine det_no' rfl ?_; go_simp; refine hK _ ?_; clear hK K))
          refine det_nil ?_
          intro W9 hS
          replace hS : Ext _ W9 := hS
          have F2 := Lib.hid (show ∀ b : Bool, (!decide (x.2 = y.2)) = b → (b = true → decide (l = m) = false) ∧ (b = false → x = y) from fun b hb => ⟨fun h => by
              subst h
              rw [decide_eq_false_iff_not, HV.out]
              rintro ⟨rfl, _⟩
              simp at hb, fun h => by
              subst h
              have h3 : x.2 = y.2 := by simpa using hb
              exact Prod.ext HP.out h3⟩)
          go_wp2
          · go_ret
            rename_i hn
            exact ⟨by first | (rw [((F2.out _ hn).1 rfl)]; done) | (rw [((F2.out _ hn).1 rfl)]; rfl), HB.out.trans hS⟩
          · rename_i hn
            go_roundw
            case rel => exact ⟨k + 1, by omega, by go_num, by rw [HV.out, (F2.out _ hn).2 rfl]; simp, HB.out.trans hS⟩
            case measure => simp [intOf]; omega
        · have e1 : (x.1 == y.1) = false := by rw [beq_eq_false_iff_ne]; exact hp
          have F := Lib.hid (show decide (l = m) = false by rw [decide_eq_false_iff_not, HV.out]; rintro ⟨rfl, _⟩; exact hp rfl)
          clear hp
          refine wp_region_det (fun W => Ext wr W) (by kernel_rfl) (by kernel_rfl) (Below.refl _ _).drew ?_
          repeat (first
            | (refine det_step (fun K hK => ?_)
               apply Exists.intro
               refine ⟨Or.inl ⟨rfl, fun W hS => ?_⟩, ?_⟩
               · replace hS : Ext wr W := hS
                 have f0 := hS.cell C0.out; have f1 := hS.cell C1.out; have z0 := hS.cell D0.out; have z1 := hS.cell D1.out
                 go_simp
                 first
                 | exact rfl
                 | exact ⟨rfl, hS⟩
                 | (fail)
               go_simp
               refine hK _ ?_
               clear hK K)
            | (refine det_step (fun K hK => ?_); refine det_no' rfl ?_; go_simp; refine hK _ ?_; clear hK K))
          refine det_nil ?_
          intro W9 hS
          replace hS : Ext _ W9 := hS
          go_wp2
          go_ret
          exact ⟨by first | (rw [F.out]; done) | (rw [F.out]; rfl), HB.out.trans hS⟩
      · obtain rfl : k = l.length := by omega
        have F := Lib.hid (show decide (l = m) = true by rw [decide_eq_true_iff, hv, List.drop_length, HL.out, List.drop_length])
        clear hv
        go_wp2
        go_ret
        exact ⟨by first | (rw [F.out]; done) | (rw [F.out]; rfl), hb⟩
  · have b1 : ((l.length : Int) != (m.length : Int)) = true := by rw [bne_iff_ne]; omega
    have F := Lib.hid (show decide (l = m) = false by rw [decide_eq_false_iff_not]; rintro rfl; exact hlm rfl)
    clear hlm
    go_enter Tryz.func22, Tryz.ntmps22
    go_wp2
    go_ret
    exact ⟨by first | (rw [F.out]; done) | (rw [F.out]; rfl), Ext.refl _⟩
end Go.Proofs.YtedjiaenodechaaGreatDoor
namespace Go.Proofs.YtedjiaenodechaaGreatDoor
open Go.RowKit Go.Shelf
attribute [local go_sem] yUpon strOf_toList
abbrev entV (A : Option Addr) (c : Nat) (x : Sp.DE) : Value := .agg #[.string (strOf x.1), .slice A x.2.length c]
set_option maxRecDepth 100000 in
set_option maxHeartbeats 4000000 in
theorem tsame1_calls (x y : Sp.DE) (A B : Option Addr) (c d : Nat) (w : World) (h : Vers w A x.2) (h' : Vers w B y.2) (hl : x.2.length ≤ 1000000) :
    Calls Tryz.prog 57 #[entV A c x, entV B d y] w fun e w' => e = .returned (.bool (decide (x = y))) ∧ Ext w w' := by
  obtain ⟨x1, x2⟩ := x
  obtain ⟨y1, y2⟩ := y
  have CS := Lib.hid fun W (e : Ext w W) => same_calls x2 y2 A B c d W (h.ext e) (h'.ext e) (by simp only at hl; omega)
  obtain ⟨w2, hw2⟩ : ∃ w2, w2 = (w.alloc (.cells #[.string (strOf x1), .slice A x2.length c] 75)).alloc (.cells #[.string (strOf y1), .slice B y2.length d] 75) := ⟨_, rfl⟩
  have E2 := Lib.hid (show Ext w w2 by rw [hw2]; exact (Ext.alloc _ _).trans (Ext.alloc _ _))
  have HW := Lib.hid hw2
  clear h h' hw2
  by_cases hp : x1 = y1
  · subst hp
    have e1 : (x1 == x1) = true := beq_self_eq_true _
    have F := Lib.hid (show decide (((x1, x2) : Sp.DE) = (x1, y2)) = decide (x2 = y2) by simp)
    go_enter Tryz.func57, Tryz.ntmps57
    go_wp2_with fail
    rw [← HW.out]
    refine (CS.out w2 E2.out).mono ?_
    rintro e w3 ⟨rfl, hb3⟩
    go_wp2
    go_ret
    exact ⟨by rw [F.out]; rfl, E2.out.trans hb3⟩
  · have e1 : (x1 == y1) = false := by rw [beq_eq_false_iff_ne]; exact hp
    have F := Lib.hid (show decide (((x1, x2) : Sp.DE) = (y1, y2)) = false by rw [decide_eq_false_iff_not]; intro h; exact hp (congrArg Prod.fst h))
    clear hp
    go_enter Tryz.func57, Tryz.ntmps57
    go_wp2_with fail
    go_ret
    refine ⟨?_, by have := E2.out; rw [HW.out] at this; exact this⟩
    have := F.out
    first
      | (rw [this]; rfl)
      | (simp_all; done)
      | (have h3 : ¬ (x1 = y1 ∧ x2 = y2) := fun h => (by simp at this; exact this h.1 h.2)
         simp [h3])
set_option maxRecDepth 100000 in
set_option maxHeartbeats 4000000 in
theorem entequal_calls (l m : List Sp.DE) (A B : Option Addr) (cap cap' : Nat) (w : World) (h : EntsAt w A l) (h' : EntsAt w B m) (hl : l.length ≤ 1000000) (hs : ∀ e ∈ l, e.2.length ≤ 1000000) :
    Calls Tryz.prog 56 #[.slice A l.length cap, .slice B m.length cap', .func (.func 57) #[] #[]] w fun e w' => e = .returned (.bool (decide (l = m))) ∧ Ext w w' := by
  by_cases hlm : l.length = m.length
  · have b0 : ((l.length : Int) == (m.length : Int)) = true := by rw [hlm]; simp
    have b1 : ((l.length : Int) != (m.length : Int)) = false := by rw [hlm]; simp
    have HL := Lib.hid hlm
    have HH := Lib.hid h
    have HH' := Lib.hid h'
    clear hlm h h'
    go_enter Tryz.func56, Tryz.ntmps56
    go_wp2
    go_loopw [17] (fun v13 wr => ∃ k : Nat, k ≤ l.length ∧ v13 = .int .i64 k ∧ decide (l = m) = decide (l.drop k = m.drop k) ∧ Ext w wr) (fun v13 _ => l.length - (intOf v13).toNat)
    case atStart => exact ⟨0, Nat.zero_le _, rfl, rfl, Ext.refl _⟩
    case round =>
      obtain ⟨k, hk, rfl, hv, hb⟩ := hrel
      by_cases hlt : k < l.length
      · have hlt' : k < m.length := by have := HL.out; omega
        obtain ⟨g, o, rfl, hc⟩ := (HH.out.ext hb).at (by omega)
        obtain ⟨g', o', rfl, hc'⟩ := (HH'.out.ext hb).at (by omega)
        obtain ⟨Av, cv, c0, c1, hvv⟩ := hc k hlt
        obtain ⟨Bv, dv, d0, d1, hvv'⟩ := hc' k hlt'
        have hls := hs _ (List.getElem_mem hlt)
        rw [Sp.beq_drop l m k hlt hlt'] at hv
        have HV := Lib.hid hv
        have C := Lib.hid fun W (e : Ext wr W) => tsame1_calls l[k] m[k] Av Bv cv dv W (hvv.ext e) (hvv'.ext e) hls
        obtain ⟨x, hx⟩ : ∃ x, x = l[k] := ⟨_, rfl⟩
        obtain ⟨y, hy⟩ : ∃ y, y = m[k] := ⟨_, rfl⟩
        rw [← hx, ← hy] at C HV
        rw [← hx] at c0 c1
        rw [← hy] at d0 d1
        have e0 := Ext.alloc wr (.cells #[.string (strOf x.1), .slice Av x.2.length cv] 75)
        have d0' := e0.cell d0
        have d1' := e0.cell d1
        have b2 : (k : Int) < (l.length : Int) := by omega
        have b3 : (k : Int) < (m.length : Int) := by omega
        clear hv hc hc' hvv hvv' e0 d0 d1 hls hx hy
        go_wp2_with (go_at_call 57; refine (C.out _ ((Ext.alloc _ _).trans (Ext.alloc _ _))).mono ?_; rintro e w1 ⟨rfl, hb1⟩; have B1 := Lib.hid (hb.trans (((Ext.alloc _ _).trans (Ext.alloc _ _)).trans hb1)); clear hb1)
        · go_ret
          refine ⟨?_, B1.out⟩
          have := HV.out
          simp_all
        · go_roundw
          case rel =>
            refine ⟨k + 1, by omega, by go_num, ?_, B1.out⟩
            have := HV.out
            simp_all
          case measure => simp [intOf]; omega
      · obtain rfl : k = l.length := by omega
        have HV := Lib.hid hv
        clear hv
        go_wp2
        go_ret
        exact ⟨by rw [HV.out, List.drop_length, HL.out, List.drop_length]; rfl, hb⟩
  · have b0 : ((l.length : Int) == (m.length : Int)) = false := by rw [beq_eq_false_iff_ne]; omega
    have b1 : ((l.length : Int) != (m.length : Int)) = true := by rw [bne_iff_ne]; omega
    have F := Lib.hid (show decide (l = m) = false by rw [decide_eq_false_iff_not]; rintro rfl; exact hlm rfl)
    clear hlm
    go_enter Tryz.func56, Tryz.ntmps56
    go_wp2
    go_ret
    exact ⟨by rw [F.out]; rfl, Ext.refl _⟩
theorem told_leaves {o : Option Sp.T} (h : Sp.GoodO o) : ∀ e ∈ Sp.told o, e.2.length ≤ 1000000 := fun e he => by
  obtain ⟨y, hy, rfl⟩ := List.mem_map.1 he
  exact (Sp.told_fit h y hy).1
theorem told_len {o : Option Sp.T} (h : Sp.GoodO o) : (Sp.told o).length ≤ 128 := by
  unfold Sp.told
  rw [List.length_map]
  exact h.2
set_option maxRecDepth 100000 in
set_option maxHeartbeats 4000000 in
theorem tsame_calls (oa ob : Option Sp.T) (a b : Value) (w : World) (ha : TreeAt w a oa) (hb : TreeAt w b ob) (ga : Sp.GoodO oa) (gb : Sp.GoodO ob) (da : ∀ x ∈ Sp.entriesO oa, x.1.length ≤ 60) (db : ∀ x ∈ Sp.entriesO ob, x.1.length ≤ 60) (K : KeysAt w 2) :
    Calls Tryz.prog 28 #[a, b] w fun e w' => e = .returned (.bool (decide (Sp.told oa = Sp.told ob))) ∧ Ext w w' := by
  have EA := Lib.hid (entries_calls oa a w ha ga da K)
  have EB := Lib.hid fun W (e : Ext w W) => entries_calls ob b W (hb.ext e) gb db (K.ext e)
  have LA := Lib.hid (told_len ga)
  have FA := Lib.hid (told_leaves ga)
  clear ha hb ga gb da db K
  go_enter Tryz.func28, Tryz.ntmps28
  go_wp2_with fail
  refine EA.out.mono ?_
  rintro e w1 ⟨A1, c1, rfl, he1, hb1⟩
  have E1 := Lib.hid he1
  have B1 := Lib.hid (show Ext w w1 from hb1)
  clear he1 hb1
  go_wp2_with fail
  refine (EB.out w1 B1.out).mono ?_
  rintro e w2 ⟨A2, c2, rfl, he2, hb2⟩
  have E2 := Lib.hid he2
  have E12 := Lib.hid (E1.out.ext hb2)
  have B2 := Lib.hid (B1.out.trans hb2)
  clear he2 hb2
  go_wp2_with fail
  refine (entequal_calls (Sp.told oa) (Sp.told ob) A1 A2 c1 c2 w2 E12.out E2.out (Nat.le_trans LA.out (by decide)) FA.out).mono ?_
  rintro e w3 ⟨rfl, hb3⟩
  have B3 := Lib.hid (B2.out.trans hb3)
  clear hb3
  go_wp2
  go_ret
  exact ⟨rfl, B3.out⟩
end Go.Proofs.YtedjiaenodechaaGreatDoor
