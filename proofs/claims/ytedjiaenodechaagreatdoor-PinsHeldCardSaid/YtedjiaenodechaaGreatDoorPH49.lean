/- Walks: whether two lists of entries are the same: the document's. Walks: whether two trees are the same. Walks: PinsHeld. -/
import Derived.Test.YtedjiaenodechaaGreatDoorPH40
import Derived.Test.YtedjiaenodechaaGreatDoorPH12
import Derived.Test.YtedjiaenodechaaGreatDoorPH43
import Derived.Test.YtedjiaenodechaaGreatDoorPH13
import Derived.Deep.DeepCutAuto
import Derived.Test.YtedjiaenodechaaGreatDoorPH48
namespace Go.Proofs.YtedjiaenodechaaGreatDoor
open Go.RowKit Go.Shelf
attribute [local go_sem] yUpon strOf_toList
theorem drop_eq_cons {α : Type} {l m : List α} {k : Nat} (h : k < l.length) (h' : k < m.length) : (l.drop k = m.drop k) = (l[k] = m[k] ∧ l.drop (k + 1) = m.drop (k + 1)) := by
  rw [List.drop_eq_getElem_cons h, List.drop_eq_getElem_cons h', List.cons.injEq]
set_option maxRecDepth 100000 in
set_option maxHeartbeats 4000000 in
theorem esame_calls (l m : List Sp.DE) (A B : Option Addr) (cap cap' : Nat) (w : World) (h : EntsAt w A l) (h' : EntsAt w B m) (hl : l.length ≤ 1000000) (hs : ∀ e ∈ l, e.2.length ≤ 1000000) :
    Calls Tryz.prog 22 #[.slice A l.length cap, .slice B m.length cap'] w fun e w' => e = .returned (.bool (decide (l = m))) ∧ Ext w w' := by
  have HH := Lib.hid h
  have HH' := Lib.hid h'
  have HS := Lib.hid hs
  clear h h' hs
  by_cases hlm : l.length = m.length
  · have b1 : ((l.length : Int) != (m.length : Int)) = false := by rw [hlm]; simp
    have HL := Lib.hid hlm
    clear hlm
    go_enter Tryz.func22, Tryz.ntmps22
    go_wp2
    go_loopw [5] (fun v5 wr => ∃ k : Nat, k ≤ l.length ∧ v5 = .int .i64 k ∧ (l = m) = (l.drop k = m.drop k) ∧ Ext w wr) (fun v5 _ => l.length - (intOf v5).toNat)
    case atStart => exact ⟨0, Nat.zero_le _, rfl, rfl, Ext.refl _⟩
    case round =>
      obtain ⟨k, hk, rfl, hv, hb⟩ := hrel
      by_cases hlt : k < l.length
      · have hlt' : k < m.length := by have := HL.out; omega
        obtain ⟨g, o, rfl, hc⟩ := (HH.out.ext hb).at (by omega)
        obtain ⟨g', o', rfl, hc'⟩ := (HH'.out.ext hb).at (by omega)
        obtain ⟨Av, cv, c0, c1, hvv⟩ := hc k hlt
        obtain ⟨Bv, dv, d0, d1, hvv'⟩ := hc' k hlt'
        rw [drop_eq_cons hlt hlt'] at hv
        have hls := HS.out _ (List.getElem_mem hlt)
        obtain ⟨x, hx⟩ : ∃ x, x = l[k] := ⟨_, rfl⟩
        obtain ⟨y, hy⟩ : ∃ y, y = m[k] := ⟨_, rfl⟩
        rw [← hx] at c0 c1 hv hvv hls
        rw [← hy] at d0 d1 hv hvv'
        have HV := Lib.hid hv
        have HB := Lib.hid hb
        have C0 := Lib.hid c0
        have C1 := Lib.hid c1
        have D0 := Lib.hid d0
        have D1 := Lib.hid d1
        have b2 : (k : Int) < (l.length : Int) := by omega
        have b3 : (k : Int) < (m.length : Int) := by omega
        have CS := Lib.hid fun W (e : Ext wr W) => rsame_calls x.2 y.2 Av Bv cv dv W (hvv.ext e) (hvv'.ext e) (by omega)
        clear hv hb hc hc' c0 c1 d0 d1 hvv hvv' hx hy hls
        go_wp2_with fail
        by_cases hp : x.1 = y.1
        · have e1 : (x.1 == y.1) = true := by rw [hp]; exact beq_self_eq_true _
          have HP := Lib.hid hp
          clear hp
          refine wp_region_det (fun W => Ext wr W) (by kernel_rfl) (by kernel_rfl) (Below.refl _ _).drew ?_
          repeat (first
            | (refine det_step (fun K hK => ?_)
               apply Exists.intro
               refine ⟨Or.inl ⟨rfl, fun W hS => ?_⟩, ?_⟩
               · replace hS : Ext wr W := hS
                 have f0 := hS.cell C0.out; have f1 := hS.cell C1.out; have z0 := hS.cell D0.out; have z1 := hS.cell D1.out
                 go_simp
                 first
                 | exact rfl
                 | exact ⟨rfl, hS⟩
                 | (refine (CS.out W hS).mono ?_; rintro e w1 ⟨rfl, hb1⟩; exact ⟨rfl, hS.trans hb1⟩)
               go_simp
               refine hK _ ?_
               clear hK K)
            | (refine det_step (fun K hK => ?_); refine det_no' rfl ?_; go_simp; refine hK _ ?_; clear hK K))
          refine det_nil ?_
          intro W9 hS
          replace hS : Ext _ W9 := hS
          have F2 := Lib.hid (show ∀ b : Bool, (!decide (x.2 = y.2)) = b → (b = true → decide (l = m) = false) ∧ (b = false → x = y) from fun b hb => ⟨fun h => by
              subst h
              rw [decide_eq_false_iff_not, HV.out]
              rintro ⟨rfl, _⟩
              simp at hb, fun h => by
              subst h
              have h3 : x.2 = y.2 := by simpa using hb
              exact Prod.ext HP.out h3⟩)
          go_wp2
          · go_ret
            rename_i hn
            exact ⟨by first | (rw [((F2.out _ hn).1 rfl)]; done) | (rw [((F2.out _ hn).1 rfl)]; rfl), HB.out.trans hS⟩
          · rename_i hn
            go_roundw
            case rel => exact ⟨k + 1, by omega, by go_num, by rw [HV.out, (F2.out _ hn).2 rfl]; simp, HB.out.trans hS⟩
            case measure => simp [intOf]; omega
        · have e1 : (x.1 == y.1) = false := by rw [beq_eq_false_iff_ne]; exact hp
          have F := Lib.hid (show decide (l = m) = false by rw [decide_eq_false_iff_not, HV.out]; rintro ⟨rfl, _⟩; exact hp rfl)
          clear hp
          refine wp_region_det (fun W => Ext wr W) (by kernel_rfl) (by kernel_rfl) (Below.refl _ _).drew ?_
          repeat (first
            | (refine det_step (fun K hK => ?_)
               apply Exists.intro
               refine ⟨Or.inl ⟨rfl, fun W hS => ?_⟩, ?_⟩
               · replace hS : Ext wr W := hS
                 have f0 := hS.cell C0.out; have f1 := hS.cell C1.out; have z0 := hS.cell D0.out; have z1 := hS.cell D1.out
                 go_simp
                 first
                 | exact rfl
                 | exact ⟨rfl, hS⟩
                 | (fail)
               go_simp
               refine hK _ ?_
               clear hK K)
            | (refine det_step (fun K hK => ?_); refine det_no' rfl ?_; go_simp; refine hK _ ?_; clear hK K))
          refine det_nil ?_
          intro W9 hS
          replace hS : Ext _ W9 := hS
          go_wp2
          go_ret
          exact ⟨by first | (rw [F.out]; done) | (rw [F.out]; rfl), HB.out.trans hS⟩
      · obtain rfl : k = l.length := by omega
        have F := Lib.hid (show decide (l = m) = true by rw [decide_eq_true_iff, hv, List.drop_length, HL.out, List.drop_length])
        clear hv
        go_wp2
        go_ret
        exact ⟨by first | (rw [F.out]; done) | (rw [F.out]; rfl), hb⟩
  · have b1 : ((l.length : Int) != (m.length : Int)) = true := by rw [bne_iff_ne]; omega
    have F := Lib.hid (show decide (l = m) = false by rw [decide_eq_false_iff_not]; rintro rfl; exact hlm rfl)
    clear hlm
    go_enter Tryz.func22, Tryz.ntmps22
    go_wp2
    go_ret
    exact ⟨by first | (rw [F.out]; done) | (rw [F.out]; rfl), Ext.refl _⟩
end Go.Proofs.YtedjiaenodechaaGreatDoor
namespace Go.Proofs.YtedjiaenodechaaGreatDoor
open Go.RowKit Go.Shelf
attribute [local go_sem] yUpon strOf_toList
abbrev entV (A : Option Addr) (c : Nat) (x : Sp.DE) : Value := .agg #[.string (strOf x.1), .slice A x.2.length c]
set_option maxRecDepth 100000 in
set_option maxHeartbeats 4000000 in
theorem tsame1_calls (x y : Sp.DE) (A B : Option Addr) (c d : Nat) (w : World) (h : Vers w A x.2) (h' : Vers w B y.2) (hl : x.2.length ≤ 1000000) :
    Calls Tryz.prog 57 #[entV A c x, entV B d y] w fun e w' => e = .returned (.bool (decide (x = y))) ∧ Ext w w' := by
  obtain ⟨x1, x2⟩ := x
  obtain ⟨y1, y2⟩ := y
  have CS := Lib.hid fun W (e : Ext w W) => same_calls x2 y2 A B c d W (h.ext e) (h'.ext e) (by simp only at hl; omega)
  obtain ⟨w2, hw2⟩ : ∃ w2, w2 = (w.alloc (.cells #[.string (strOf x1), .slice A x2.length c] 75)).alloc (.cells #[.string (strOf y1), .slice B y2.length d] 75) := ⟨_, rfl⟩
  have E2 := Lib.hid (show Ext w w2 by rw [hw2]; exact (Ext.alloc _ _).trans (Ext.alloc _ _))
  have HW := Lib.hid hw2
  clear h h' hw2
  by_cases hp : x1 = y1
  · subst hp
    have e1 : (x1 == x1) = true := beq_self_eq_true _
    have F := Lib.hid (show decide (((x1, x2) : Sp.DE) = (x1, y2)) = decide (x2 = y2) by simp)
    go_enter Tryz.func57, Tryz.ntmps57
    go_wp2_with fail
    rw [← HW.out]
    refine (CS.out w2 E2.out).mono ?_
    rintro e w3 ⟨rfl, hb3⟩
    go_wp2
    go_ret
    exact ⟨by rw [F.out]; rfl, E2.out.trans hb3⟩
  · have e1 : (x1 == y1) = false := by rw [beq_eq_false_iff_ne]; exact hp
    have F := Lib.hid (show decide (((x1, x2) : Sp.DE) = (y1, y2)) = false by rw [decide_eq_false_iff_not]; intro h; exact hp (congrArg Prod.fst h))
    clear hp
    go_enter Tryz.func57, Tryz.ntmps57
    go_wp2_with fail
    go_ret
    refine ⟨?_, by have := E2.out; rw [HW.out] at this; exact this⟩
    have := F.out
    first
      | (rw [this]; rfl)
      | (simp_all; done)
      | (have h3 : ¬ (x1 = y1 ∧ x2 = y2) := fun h => (by simp at this; exact this h.1 h.2)
         simp [h3])
set_option maxRecDepth 100000 in
set_option maxHeartbeats 4000000 in
theorem entequal_calls (l m : List Sp.DE) (A B : Option Addr) (cap cap' : Nat) (w : World) (h : EntsAt w A l) (h' : EntsAt w B m) (hl : l.length ≤ 1000000) (hs : ∀ e ∈ l, e.2.length ≤ 1000000) :
    Calls Tryz.prog 56 #[.slice A l.length cap, .slice B m.length cap', .func (.func 57) #[] #[]] w fun e w' => e = .returned (.bool (decide (l = m))) ∧ Ext w w' := by
  by_cases hlm : l.length = m.length
  · have b0 : ((l.length : Int) == (m.length : Int)) = true := by rw [hlm]; simp
    have b1 : ((l.length : Int) != (m.length : Int)) = false := by rw [hlm]; simp
    have HL := Lib.hid hlm
    have HH := Lib.hid h
    have HH' := Lib.hid h'
    clear hlm h h'
    go_enter Tryz.func56, Tryz.ntmps56
    go_wp2
    go_loopw [17] (fun v13 wr => ∃ k : Nat, k ≤ l.length ∧ v13 = .int .i64 k ∧ decide (l = m) = decide (l.drop k = m.drop k) ∧ Ext w wr) (fun v13 _ => l.length - (intOf v13).toNat)
    case atStart => exact ⟨0, Nat.zero_le _, rfl, rfl, Ext.refl _⟩
    case round =>
      obtain ⟨k, hk, rfl, hv, hb⟩ := hrel
      by_cases hlt : k < l.length
      · have hlt' : k < m.length := by have := HL.out; omega
        obtain ⟨g, o, rfl, hc⟩ := (HH.out.ext hb).at (by omega)
        obtain ⟨g', o', rfl, hc'⟩ := (HH'.out.ext hb).at (by omega)
        obtain ⟨Av, cv, c0, c1, hvv⟩ := hc k hlt
        obtain ⟨Bv, dv, d0, d1, hvv'⟩ := hc' k hlt'
        have hls := hs _ (List.getElem_mem hlt)
        rw [Sp.beq_drop l m k hlt hlt'] at hv
        have HV := Lib.hid hv
        have C := Lib.hid fun W (e : Ext wr W) => tsame1_calls l[k] m[k] Av Bv cv dv W (hvv.ext e) (hvv'.ext e) hls
        obtain ⟨x, hx⟩ : ∃ x, x = l[k] := ⟨_, rfl⟩
        obtain ⟨y, hy⟩ : ∃ y, y = m[k] := ⟨_, rfl⟩
        rw [← hx, ← hy] at C HV
        rw [← hx] at c0 c1
        rw [← hy] at d0 d1
        have e0 := Ext.alloc wr (.cells #[.string (strOf x.1), .slice Av x.2.length cv] 75)
        have d0' := e0.cell d0
        have d1' := e0.cell d1
        have b2 : (k : Int) < (l.length : Int) := by omega
        have b3 : (k : Int) < (m.length : Int) := by omega
        clear hv hc hc' hvv hvv' e0 d0 d1 hls hx hy
        go_wp2_with (go_at_call 57; refine (C.out _ ((Ext.alloc _ _).trans (Ext.alloc _ _))).mono ?_; rintro e w1 ⟨rfl, hb1⟩; have B1 := Lib.hid (hb.trans (((Ext.alloc _ _).trans (Ext.alloc _ _)).trans hb1)); clear hb1)
        · go_ret
          refine ⟨?_, B1.out⟩
          have := HV.out
          simp_all
        · go_roundw
          case rel =>
            refine ⟨k + 1, by omega, by go_num, ?_, B1.out⟩
            have := HV.out
            simp_all
          case measure => simp [intOf]; omega
      · obtain rfl : k = l.length := by omega
        have HV := Lib.hid hv
        clear hv
        go_wp2
        go_ret
        exact ⟨by rw [HV.out, List.drop_length, HL.out, List.drop_length]; rfl, hb⟩
  · have b0 : ((l.length : Int) == (m.length : Int)) = false := by rw [beq_eq_false_iff_ne]; omega
    have b1 : ((l.length : Int) != (m.length : Int)) = true := by rw [bne_iff_ne]; omega
    have F := Lib.hid (show decide (l = m) = false by rw [decide_eq_false_iff_not]; rintro rfl; exact hlm rfl)
    clear hlm
    go_enter Tryz.func56, Tryz.ntmps56
    go_wp2
    go_ret
    exact ⟨by rw [F.out]; rfl, Ext.refl _⟩
theorem told_leaves {o : Option Sp.T} (h : Sp.GoodO o) : ∀ e ∈ Sp.told o, e.2.length ≤ 1000000 := fun e he => by
  obtain ⟨y, hy, rfl⟩ := List.mem_map.1 he
  exact (Sp.told_fit h y hy).1
theorem told_len {o : Option Sp.T} (h : Sp.GoodO o) : (Sp.told o).length ≤ 128 := by
  unfold Sp.told
  rw [List.length_map]
  exact h.2
set_option maxRecDepth 100000 in
set_option maxHeartbeats 4000000 in
theorem tsame_calls (oa ob : Option Sp.T) (a b : Value) (w : World) (ha : TreeAt w a oa) (hb : TreeAt w b ob) (ga : Sp.GoodO oa) (gb : Sp.GoodO ob) (da : ∀ x ∈ Sp.entriesO oa, x.1.length ≤ 60) (db : ∀ x ∈ Sp.entriesO ob, x.1.length ≤ 60) (K : KeysAt w 2) :
    Calls Tryz.prog 28 #[a, b] w fun e w' => e = .returned (.bool (decide (Sp.told oa = Sp.told ob))) ∧ Ext w w' := by
  have EA := Lib.hid (entries_calls oa a w ha ga da K)
  have EB := Lib.hid fun W (e : Ext w W) => entries_calls ob b W (hb.ext e) gb db (K.ext e)
  have LA := Lib.hid (told_len ga)
  have FA := Lib.hid (told_leaves ga)
  clear ha hb ga gb da db K
  go_enter Tryz.func28, Tryz.ntmps28
  go_wp2_with fail
  refine EA.out.mono ?_
  rintro e w1 ⟨A1, c1, rfl, he1, hb1⟩
  have E1 := Lib.hid he1
  have B1 := Lib.hid (show Ext w w1 from hb1)
  clear he1 hb1
  go_wp2_with fail
  refine (EB.out w1 B1.out).mono ?_
  rintro e w2 ⟨A2, c2, rfl, he2, hb2⟩
  have E2 := Lib.hid he2
  have E12 := Lib.hid (E1.out.ext hb2)
  have B2 := Lib.hid (B1.out.trans hb2)
  clear he2 hb2
  go_wp2_with fail
  refine (entequal_calls (Sp.told oa) (Sp.told ob) A1 A2 c1 c2 w2 E12.out E2.out (Nat.le_trans LA.out (by decide)) FA.out).mono ?_
  rintro e w3 ⟨rfl, hb3⟩
  have B3 := Lib.hid (B2.out.trans hb3)
  clear hb3
  go_wp2
  go_ret
  exact ⟨rfl, B3.out⟩
end Go.Proofs.YtedjiaenodechaaGreatDoor
namespace Go.Proofs.YtedjiaenodechaaGreatDoor
open Go.RowKit Go.Shelf
attribute [local go_sem] yUpon strOf_toList
/-- Numbers in memory. -/
def numsC (l : List Int) : List Value := l.map fun n => .int .i64 n
def Nums (w : World) (A : Option Addr) (l : List Int) : Prop := Cells w A (numsC l)
theorem Nums.at {w : World} {A : Option Addr} {l : List Int} (h : Nums w A l) (hn : 0 < l.length) : ∃ g o, A = some ⟨g, o, none⟩ ∧ ∀ k (h : k < l.length), w.cell? ⟨g, o + k, none⟩ = some (.int .i64 l[k]) := by
  obtain ⟨g, o, hA, hc⟩ := h (by intro e; rw [numsC, List.map_eq_nil_iff] at e; rw [e] at hn; simp at hn)
  exact ⟨g, o, hA, fun k hk => hc k _ (by simp [numsC, hk])⟩
theorem PinsAt.nums {g : Nat} {w w' : World} {ps : List Pin} (h : PinsAt g w ps) (e : Only g w w') {A : Option Addr} {l : List Int} (hl : Nums w A l) : Nums w' A l := by
  obtain ⟨v, h1, h2, h3⟩ := h
  refine Cells.apart hl e h1 (row_sl h2) (fun u hu => ?_)
  rw [numsC, List.getElem?_map] at hu
  cases hq : l[0]? with
  | none => rw [hq] at hu; cases hu
  | some b => rw [hq] at hu; cases hu; rfl
/-- The first is there, and nothing is old. -/
def Held (a : Option Addr) (o : Option Sp.T) (t : Int) (ps : List Pin) : Prop := ∃ n rest, ps = (a, o, n) :: rest ∧ ∀ x ∈ ps, t ≤ x.2.2 ∧ x.2.2 ≤ t + 99
theorem held_old {a : Option Addr} {o : Option Sp.T} {t n : Int} {ps : List Pin} (h : Held a o t ps) (hn : n ≤ t + 99) : oldS n ps = ps := by
  obtain ⟨_, _, _, h2⟩ := h
  unfold oldS
  rw [List.filter_eq_self]
  intro x hx
  have := h2 x hx
  simp only [decide_eq_true_eq]
  omega
theorem held_put {a a2 : Option Addr} {o o2 : Option Sp.T} {t n : Int} {ps : List Pin} (h : Held a o t ps) (h1 : t ≤ n) (h2 : n ≤ t + 99) (hl : ps.length ≤ 3) : Held a o t (putS (a2, o2) n ps) ∧ (putS (a2, o2) n ps).length ≤ ps.length + 1 := by
  unfold putS
  rw [held_old h h2]
  obtain ⟨m, rest, e1, e2⟩ := h
  cases hu : useK (dgP (a2, o2, n)) ps with
  | some k =>
    have e3 : useP (dgP (a2, o2, n)) n ps = ps.modify k (touch n) := by rw [useP, hu]
    simp only [e3]
    refine ⟨?_, by rw [List.length_modify]; omega⟩
    have hall : ∀ x ∈ ps.modify k (touch n), t ≤ x.2.2 ∧ x.2.2 ≤ t + 99 := fun x hx => by
      rw [← e3] at hx
      obtain ⟨y, hy, rfl | rfl⟩ := useP_mem hx
      · exact e2 _ hy
      · exact ⟨h1, h2⟩
    subst e1
    cases k with
    | zero => exact ⟨n, rest, rfl, hall⟩
    | succ k => exact ⟨m, rest.modify k (touch n), rfl, hall⟩
  | none =>
    have e3 : roomS ps = ps := by unfold roomS; rw [if_pos (by omega)]
    simp only [e3]
    refine ⟨⟨m, rest ++ [(a2, o2, n)], by rw [e1]; rfl, fun x hx => ?_⟩, by simp⟩
    rcases List.mem_append.1 hx with hx | hx
    · exact e2 x hx
    · obtain rfl := List.mem_singleton.1 hx
      exact ⟨h1, h2⟩
theorem held_found {a : Option Addr} {o : Option Sp.T} {t n : Int} {ps : List Pin} (h : Held a o t ps) (hn : n ≤ t + 99) : foundV (Sp.nsum (Sp.nodeT (o.getD .nil))) n ps = .tuple #[.pointer a, .bool true] := by
  unfold foundV
  rw [held_old h hn]
  obtain ⟨m, rest, e1, e2⟩ := h
  have : useK (Sp.nsum (Sp.nodeT (o.getD .nil))) ps = some 0 := by
    rw [e1]
    unfold useK
    rw [List.findIdx?_cons]
    have : (dgP (a, o, m) == Sp.nsum (Sp.nodeT (o.getD .nil))) = true := beq_self_eq_true _
    rw [this]
    rfl
  rw [this, e1]
  rfl
theorem rclamp_calls (n : Int) (w : World) : Calls Tryz.prog 34 #[.int .i64 n] w fun e w' => e = .returned (.int .i64 (min (max n 0) 1099511627776)) ∧ w = w' := by
  go_enter Tryz.func34, Tryz.ntmps34
  go_wp2
  go_ret
  exact ⟨rfl, rfl⟩
namespace Sp
theorem tree_good (k : Fin 7) : GoodO (treeK k) := setCode_good (tree_code k) good_none
theorem tree_short : ∀ k : Fin 7, ∀ x ∈ entriesO (treeK k), x.1.length ≤ 60 := by decide +kernel
end Sp
set_option maxRecDepth 100000 in
set_option maxHeartbeats 4000000 in
theorem pinsHeld_calls (now : Int) (l : List Int) (A : Option Addr) (cap : Nat) (w : World) (hL : Nums w A l) (hb : ∀ n ∈ l, -9223372036854775808 ≤ n ∧ n ≤ 9223372036854775807) (K : KeysAt w 2) (M : MaxAt w) :
    Calls Tryz.prog 8 #[.int .i64 now, .slice A l.length cap] w fun e w' => e = .returned (.bool true) ∧ Ext w w' := by
  have KK := Lib.hid K
  have MM := Lib.hid M
  have LL := Lib.hid hL
  have HB := Lib.hid hb
  have tok1 : True := trivial
  obtain ⟨t, ht⟩ : ∃ t, t = min (max now 0) 1099511627776 := ⟨_, rfl⟩
  have t0 : 0 ≤ t := by omega
  have t1 : t ≤ 1099511627776 := by omega
  have RC := Lib.hid (show ∀ w, Calls Tryz.prog 34 #[.int .i64 now] w fun e w' => e = .returned (.int .i64 t) ∧ w = w' from fun w => by rw [ht]; exact rclamp_calls now w)
  clear K M hL hb ht
  go_enter Tryz.func8, Tryz.ntmps8
  go_upto_region 2 with (have _t := tok1; ((with_reducible refine at_box (t := 62) rfl ?_); refine box_new rfl (cs := #[.slice none 0 0]) (t := 62) (by first | (go_simp; done) | (go_simp; rfl)) ?_; intro g w2 hg2 hx2 hb2; have P2 := Lib.hid (pins_new w2 g hx2); have B2 := Lib.hid (show Ext w w2 from hb2); have GG := Lib.hid hg2; clear tok1 _t hx2 hb2 hg2))
  go_wp2_with fail
  refine (RC.out w2).mono ?_
  rintro e w3 ⟨rfl, rfl⟩
  by_cases hbig : 1099511627576 < t
  · go_wp2_with fail
    refine (awake28_calls w2 (KK.out.ext B2.out) (max_kept MM.out B2.out)).mono ?_
    rintro e w3 ⟨rfl, hb3⟩
    go_wp2
    go_ret
    exact ⟨rfl, B2.out.trans hb3⟩
  · have TB := Lib.hid (show t ≤ 1099511627576 by omega)
    go_wp2_with fail
    refine (trees_calls 0 w2 (by decide) (KK.out.ext B2.out) (max_kept MM.out B2.out)).mono ?_
    rintro e w3 ⟨a3, rfl, ht3, hb3⟩
    obtain ⟨o, ho⟩ : ∃ o, o = Sp.treeK (Sp.tN 0) := ⟨_, rfl⟩
    rw [← ho] at ht3
    have E3 := Lib.hid (B2.out.trans hb3)
    have P3 := Lib.hid (P2.out.ext hb3)
    have CT := Lib.hid (show clampS t = t by unfold clampS; omega)
    have PC := Lib.hid (put_calls g [] a3 o t w3 P3.out (by decide) ht3 (KK.out.ext E3.out))
    rw [CT.out] at PC
    have H0 := Lib.hid (show Held a3 o t (putS (a3, o) t []) ∧ (putS (a3, o) t []).length ≤ 1 from ⟨⟨t, [], rfl, fun x hx => by
      obtain rfl := List.mem_singleton.1 hx
      exact ⟨Int.le_refl _, by simp only; omega⟩⟩, Nat.le_refl _⟩)
    have TC := Lib.hid (show ∀ W, KeysAt W 2 → MaxAt W → Calls Tryz.prog 18 #[.int .i64 0] W fun e w' => ∃ a, e = .returned (.pointer a) ∧ TreeAt w' (.pointer a) o ∧ Ext W w' from fun W K M => by rw [ho]; exact trees_calls 0 W (by decide) K M)
    have GO := Lib.hid (show Sp.GoodO o ∧ ∀ x ∈ Sp.entriesO o, x.1.length ≤ 60 by rw [ho]; exact ⟨Sp.tree_good 0, Sp.tree_short 0⟩)
    obtain ⟨d, hd⟩ : ∃ d, d = Sp.nsum (Sp.nodeT (o.getD .nil)) := ⟨_, rfl⟩
    have DD := Lib.hid (show d.length = 32 by rw [hd]; exact Sp.nsum_len _)
    have RT := Lib.hid fun v W (h : TreeAt W v o) (K : KeysAt W 2) => troot_calls o v W h K
    rw [← hd] at RT
    have HF := Lib.hid (show ∀ ps n, Held a3 o t ps → n ≤ t + 99 → foundV d n ps = .tuple #[.pointer a3, .bool true] from fun ps n h hn => by rw [hd]; exact held_found h hn)
    clear ht3 hb3 ho hd
    go_wp2_with fail
    refine PC.out.mono ?_
    rintro e w4 ⟨rfl, hp4, ho4⟩
    have P4 := Lib.hid hp4
    have E4 := Lib.hid (show Ext w w4 from Below.trans E3.out (ho4.below GG.out E3.out.size))
    clear hp4 ho4
    go_wp2
    go_loopw [7] (fun v7 wr => ∃ i : Nat, i ≤ 3 ∧ i ≤ l.length ∧ v7 = .int .i64 i ∧ (∃ ps, PinsAt g wr ps ∧ Held a3 o t ps ∧ ps.length ≤ i + 1) ∧ Ext w wr) (fun v7 _ => 3 - (intOf v7).toNat)
    case atStart => exact ⟨0, by omega, Nat.zero_le _, rfl, ⟨_, P4.out, H0.out.1, H0.out.2⟩, E4.out⟩
    case round =>
      obtain ⟨i, hi3, hil, rfl, ⟨ps, hP, hH, hpl⟩, hb⟩ := hrel
      have PP := Lib.hid hP
      have HH := Lib.hid hH
      have PL := Lib.hid hpl
      have EW := Lib.hid hb
      clear hP hH hpl hb
      by_cases hgo : i < l.length ∧ i < 3
      · obtain ⟨g1, g2⟩ := hgo
        have b1 : (i : Int) < (l.length : Int) := by omega
        have b2 : (i : Int) < 3 := by omega
        obtain ⟨lb, lo, rfl, hc⟩ := LL.out.at (by omega)
        have c0 := hc i g1
        have hbn := HB.out _ (List.getElem_mem g1)
        obtain ⟨n, hn⟩ : ∃ n, n = l[i] := ⟨_, rfl⟩
        rw [← hn] at c0 hbn
        obtain ⟨x, hx⟩ : ∃ x : Int, x = n % 18446744073709551616 := ⟨_, rfl⟩
        obtain ⟨k6, hk6⟩ : ∃ k6 : Nat, k6 = (x % 6).toNat := ⟨_, rfl⟩
        obtain ⟨k9, hk9⟩ : ∃ k9 : Nat, k9 = (x % 100).toNat := ⟨_, rfl⟩
        have l6 : k6 < 6 := by omega
        have l9 : k9 < 100 := by omega
        have u1 : IntKind.u64.wrap n = x := by rw [IntKind.wrap_u64, hx]
        have u2 : x.tmod 6 = (k6 : Int) := by rw [Int.tmod_eq_emod_of_nonneg (by omega), hk6]; omega
        have u3 : x.tmod 100 = (k9 : Int) := by rw [Int.tmod_eq_emod_of_nonneg (by omega), hk9]; omega
        have u4 : IntKind.i64.wrap (k6 : Int) = (k6 : Int) := IntWalk.i64_in _ (by omega)
        have u5 : IntKind.i64.wrap (k9 : Int) = (k9 : Int) := IntWalk.i64_in _ (by omega)
        have u6 : IntKind.i64.wrap (1 + (k6 : Int)) = 1 + (k6 : Int) := IntWalk.i64_in _ (by omega)
        have u7 : IntKind.i64.wrap (t + (k9 : Int)) = t + (k9 : Int) := IntWalk.i64_in _ (by have := TB.out; omega)
        have u8 : IntKind.u64.wrap (k6 : Int) = (k6 : Int) := by rw [IntKind.wrap_u64]; omega
        have u9 : IntKind.u64.wrap (k9 : Int) = (k9 : Int) := by rw [IntKind.wrap_u64]; omega
        have f0 := EW.out.cell c0
        have C0 := Lib.hid c0
        have TN := Lib.hid (trees_calls (1 + (k6 : Int)) wr.drew (by omega) (KK.out.ext EW.out.drew) (max_kept MM.out EW.out.drew))
        have CN := Lib.hid (show clampS (t + (k9 : Int)) = t + (k9 : Int) by unfold clampS; have := TB.out; omega)
        have tokA : True := trivial
        have tokB : True := trivial
        clear hc c0 hbn hn hx hk6 hk9
        go_wp2_with fail
        go_region_law (first
          | (have _tA := tokA; refine step_call rfl 18 #[.int .i64 (1 + (k6 : Int))] (by go_simp) TN.out ?_; rintro e w9 ⟨a9, rfl, ht9, hb9⟩; have T9 := Lib.hid ht9; have B9 := Lib.hid (show Ext wr w9 from Below.trans (Below.refl _ _).drew hb9); have f1 := (EW.out.trans B9.out).cell C0.out; clear ht9 hb9 tokA _tA; refine ⟨_, rfl, ?_⟩)
          | (have _tB := tokB; refine step_call rfl 17 #[.pointer (some ⟨g, 0, none⟩), .pointer a9, .int .i64 (t + (k9 : Int))] (by go_simp) (put_calls g ps a9 _ (t + (k9 : Int)) w9 (PP.out.ext B9.out) (by have := PL.out; omega) T9.out (KK.out.ext (EW.out.trans B9.out))) ?_; rintro e w10 ⟨rfl, hp10, ho10⟩; have P10 := Lib.hid hp10; have E10 := Lib.hid (show Ext w w10 from Below.trans (EW.out.trans B9.out) (ho10.below GG.out (EW.out.trans B9.out).size)); clear hp10 ho10 tokB _tB; refine ⟨_, rfl, ?_⟩))
        all_goals (
          have P11 := P10.out
          rw [CN.out] at P11
          have hp := held_put (a2 := a9) (o2 := Sp.treeK (Sp.tN (1 + (k6 : Int)))) (n := t + (k9 : Int)) HH.out (by omega) (by omega) (by have := PL.out; omega)
          have HP := Lib.hid hp
          clear hp f0
          go_wp2
          refine ⟨⟨i + 1, by omega, by omega, by go_num, ⟨_, P11, HP.out.1, by have := HP.out.2; have := PL.out; omega⟩, E10.out⟩, by simp [intOf]; omega⟩)
      · have CF := Lib.hid (show clampS (t + 99) = t + 99 by unfold clampS; have := TB.out; omega)
        have w9 : IntKind.i64.wrap (t + 99) = t + 99 := IntWalk.i64_in _ (by have := TB.out; omega)
        have hcase : (¬ (i : Int) < (l.length : Int)) ∨ ((i : Int) < (l.length : Int) ∧ ¬ (i : Int) < 3) := by omega
        clear hgo
        rcases hcase with b1 | ⟨b1, b2⟩
        all_goals (
          go_wp2_with fail
          refine (TC.out wr (KK.out.ext EW.out) (max_kept MM.out EW.out)).mono ?_
          rintro e w5 ⟨a5, rfl, ht5, hb5⟩
          have T5 := Lib.hid ht5
          have E5 := Lib.hid (EW.out.trans hb5)
          have P5 := Lib.hid (PP.out.ext hb5)
          clear ht5 hb5
          go_wp2_with fail
          refine (RT.out _ w5 T5.out (KK.out.ext E5.out)).mono ?_
          rintro e w6 ⟨rfl, hb6⟩
          have E6 := Lib.hid (E5.out.trans hb6)
          have P6 := Lib.hid (P5.out.ext hb6)
          have FC := Lib.hid (pfind_calls g ps d DD.out (t + 99) w6 P6.out (by have := PL.out; omega) (KK.out.ext E6.out))
          rw [CF.out, HF.out ps (t + 99) HH.out (Int.le_refl _)] at FC
          clear hb6
          go_wp2_with fail
          refine FC.out.mono ?_
          rintro e w7 ⟨rfl, _, ho7⟩
          have T3 := Lib.hid (show TreeAt w7 (.pointer a3) o by
            obtain ⟨m, rest, e1, _⟩ := HH.out
            obtain ⟨v, _, _, h3⟩ := P6.out
            exact P6.out.tree ho7 (h3 (a3, o, m) (by rw [e1]; exact List.mem_cons_self ..)).1)
          have E7 := Lib.hid (show Ext w w7 from Below.trans E6.out (ho7.below GG.out E6.out.size))
          clear ho7
          go_wp2_with fail
          refine (TC.out w7 (KK.out.ext E7.out) (max_kept MM.out E7.out)).mono ?_
          rintro e w8 ⟨a8, rfl, ht8, hb8⟩
          have E8 := Lib.hid (E7.out.trans hb8)
          have SM := Lib.hid (tsame_calls o o (.pointer a3) (.pointer a8) w8 (T3.out.ext hb8) ht8 GO.out.1 GO.out.1 GO.out.2 GO.out.2 (KK.out.ext E8.out))
          rw [decide_eq_true (rfl : Sp.told o = Sp.told o)] at SM
          clear ht8 hb8
          go_wp2_with fail
          refine SM.out.mono ?_
          rintro e w9 ⟨rfl, hb9⟩
          have E9 := Lib.hid (E8.out.trans hb9)
          clear hb9
          go_wp2_with fail
          refine (awake28_calls w9 (KK.out.ext E9.out) (max_kept MM.out E9.out)).mono ?_
          rintro e w10 ⟨rfl, hb10⟩
          go_wp2
          go_ret
          exact ⟨rfl, E9.out.trans hb10⟩)
end Go.Proofs.YtedjiaenodechaaGreatDoor
