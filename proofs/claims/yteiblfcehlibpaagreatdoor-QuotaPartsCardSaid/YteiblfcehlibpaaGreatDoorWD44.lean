/- Walks: the document's List, Under, Count; walk.Count. Walks: whether two lists of entries are the same: the document's. Walks: what is seen of entries: the document's. -/
import Derived.Test.YteiblfcehlibpaaGreatDoorWD43
import Derived.Test.YteiblfcehlibpaaGreatDoorWD38
import Derived.Test.YteiblfcehlibpaaGreatDoorWD36
import Derived.Deep.DeepCutAuto
import Derived.Test.YteiblfcehlibpaaGreatDoorWD12
import Derived.Test.YteiblfcehlibpaaGreatDoorWD41
import Derived.Test.YteiblfcehlibpaaGreatDoorWD11
namespace Go.Proofs.YteiblfcehlibpaaGreatDoor
open Go.RowKit Go.Shelf
attribute [local go_sem] yUpon strOf_toList
namespace Sp
theorem take_more {α : Type} (A : List α) (b : Bool) (x : α) (n : Nat) : (A ++ (if b then [x] else [])).take n = A.take n ++ if (b && decide ((A.take n).length < n)) = true then [x] else [] := by
  cases b with
  | false => simp
  | true =>
    simp only [if_true, Bool.true_and, decide_eq_true_eq]
    by_cases h : A.length < n
    · rw [List.take_of_length_le (by rw [List.length_append]; simp; omega), List.take_of_length_le (by omega), if_pos h]
    · have h2 : (A.take n).length = n := by rw [List.length_take]; omega
      rw [List.take_append_of_le_length (by omega), if_neg (by omega), List.append_nil]
theorem wlist_step (l : List DE) (d a : Bs) (most : Int) (k : Nat) (h : k < l.length) : wlist (l.take (k + 1)) d a most = wlist (l.take k) d a most ++ if (behind d a l[k].1 && decide (((wlist (l.take k) d a most).length : Int) < most)) = true then [l[k]] else [] := by
  unfold wlist
  rw [List.take_succ_eq_append_getElem h, List.filter_append]
  have e : (List.filter (fun e => behind d a e.1) [l[k]]) = if behind d a l[k].1 then [l[k]] else [] := by
    cases hb : behind d a l[k].1 <;> simp [hb]
  have e2 : decide (((List.take most.toNat (List.filter (fun e => behind d a e.1) (l.take k))).length : Int) < most) = decide ((List.take most.toNat (List.filter (fun e => behind d a e.1) (l.take k))).length < most.toNat) := by
    congr 1
    rw [eq_iff_iff]
    constructor <;> intro h <;> omega
  rw [e, take_more, e2]
theorem wlist_len (l : List DE) (d a : Bs) (most : Int) : (wlist l d a most).length ≤ l.length := by
  unfold wlist
  rw [List.length_take]
  exact Nat.le_trans (Nat.min_le_right _ _) (List.length_filter_le _ _)
end Sp
set_option maxRecDepth 100000 in
set_option maxHeartbeats 4000000 in
theorem rlist_calls (l : List Sp.DE) (A : Option Addr) (cap : Nat) (d a : Sp.Bs) (most : Int) (w : World) (h : EntsAt w A l) (hl : l.length ≤ 1000) (hpl : ∀ e ∈ l, e.1.length ≤ 1000000) (hdl : d.length ≤ 1000000) (hal : a.length ≤ 1000000) :
    Calls Tryz.prog 32 #[.slice A l.length cap, .string (strOf d), .string (strOf a), .int .i64 most] w fun e w' => ∃ B c, e = .returned (.slice B (Sp.wlist l d a most).length c) ∧ EntsAt w' B (Sp.wlist l d a most) ∧ Ext w w' := by
  have HH := Lib.hid h
  have HPL := Lib.hid hpl
  clear h hpl
  go_enter Tryz.func32, Tryz.ntmps32
  go_wp2
  go_loopw [9, 10] (fun v9 v10 wr => ∃ k : Nat, k ≤ l.length ∧ v10 = .int .i64 k ∧ OutAt w wr v9 (Sp.wlist (l.take k) d a most) ∧ Ext w wr) (fun _ v10 _ => l.length - (intOf v10).toNat)
  case atStart => exact ⟨0, Nat.zero_le _, rfl, ⟨[], by simp [Sp.wlist], by simp [Sp.wlist]; exact World.ownsRow_nil _ _ _ _, fun x h => by cases h⟩, Ext.refl _⟩
  case round =>
    obtain ⟨k, hk, rfl, ho, hb⟩ := hrel
    have HO := Lib.hid ho
    have HB := Lib.hid hb
    clear ho hb
    by_cases hlt : k < l.length
    · obtain ⟨eb, eo, rfl, he⟩ := HH.out.at (by omega)
      obtain ⟨Av, cv, c0, c1, hv⟩ := he k hlt
      have st := Sp.wlist_step l d a most k hlt
      have wl := Sp.wlist_len (l.take k) d a most
      rw [List.length_take] at wl
      obtain ⟨x, hx⟩ : ∃ x, x = l[k] := ⟨_, rfl⟩
      have XL := Lib.hid (show x.1.length ≤ 1000000 by rw [hx]; exact HPL.out _ (List.getElem_mem hlt))
      rw [← hx] at c0 c1 hv st
      obtain ⟨out, hout⟩ : ∃ out, out = Sp.wlist (l.take k) d a most := ⟨_, rfl⟩
      rw [← hout] at st wl
      have HO1 := HO.out
      rw [← hout] at HO1
      have O1 := Lib.hid HO1
      have C0 := Lib.hid c0
      have C1 := Lib.hid c1
      have HVX := Lib.hid hv
      have b1 : (k : Int) < (l.length : Int) := by omega
      have x0 := HB.out.cell c0
      obtain ⟨cc, hcc⟩ : ∃ cc, cc = (Sp.behind d a x.1 && decide ((out.length : Int) < most)) := ⟨_, rfl⟩
      rw [← hcc] at st
      have ST := Lib.hid st
      have HCC := Lib.hid (show cc = (Sp.under x.1 d && decide (0 < Sp.compare x.1 a) && decide ((out.length : Int) < most)) by rw [hcc]; rfl)
      obtain ⟨A5, c5, e5, _⟩ := HO1.ents HB.out
      obtain ⟨m, hm1, hm2, hm3⟩ := O1.out
      have M1 := Lib.hid hm1
      have M2 := Lib.hid hm2
      have M3 := Lib.hid hm3
      subst e5
      clear he hx hv hout HO1 hcc st HO hm1 hm2 hm3
      go_upto_region 5 with fail
      go_cut [39] (fun v39 wx => v39 = .bool cc ∧ Ext wr wx)
      case first =>
        go_wp2_with fail
        refine (under_calls x.1 d wr XL.out hdl).mono ?_
        rintro e w2 ⟨rfl, hb2⟩
        have B2 := Lib.hid (show Ext wr w2 from hb2)
        have x1 := (HB.out.trans hb2).cell C0.out
        obtain ⟨u, hu⟩ : ∃ u, u = Sp.under x.1 d := ⟨_, rfl⟩
        have HC2 := Lib.hid (show cc = (u && decide (0 < Sp.compare x.1 a) && decide ((out.length : Int) < most)) by rw [hu]; exact HCC.out)
        rw [← hu]
        clear hb2 hu x0 c0 c1
        cases u with
        | false =>
          go_wp2
          go_meet
          case rel => exact ⟨by rw [HC2.out]; rfl, B2.out⟩
        | true =>
          go_wp2_with fail
          refine (rcompare_calls (strOf x.1) (strOf a) w2 (by rw [strOf_size]; have := XL.out; omega) (by rw [strOf_size]; omega)).mono ?_
          rintro e w3 ⟨rfl, hb3⟩
          rw [strOf_data, strOf_data]
          have B3 := Lib.hid (show Ext wr w3 from B2.out.trans hb3)
          obtain ⟨cv2, hcv⟩ : ∃ cv2, cv2 = Sp.compare x.1 a := ⟨_, rfl⟩
          have HC3 := Lib.hid (show cc = (decide (0 < cv2) && decide ((out.length : Int) < most)) by rw [hcv, HC2.out]; simp)
          rw [← hcv]
          clear hb3 hcv x1
          by_cases hc0 : 0 < cv2
          · have HC4 := Lib.hid (show cc = decide ((out.length : Int) < most) by rw [HC3.out, decide_eq_true hc0, Bool.true_and])
            go_wp2
            go_meet
            case rel => exact ⟨by rw [HC4.out], B3.out⟩
          · have HC4 := Lib.hid (show cc = false by rw [HC3.out, decide_eq_false hc0, Bool.false_and])
            go_wp2
            go_meet
            case rel => exact ⟨by rw [HC4.out], B3.out⟩
      case rest =>
        obtain ⟨rfl, hbx⟩ := hcut
        obtain ⟨wx, hwx⟩ : ∃ wx, wx = wc := ⟨_, rfl⟩
        rw [← hwx] at hbx ⊢
        have BX := Lib.hid (show Ext wr wx from hbx)
        have EX := Lib.hid (HB.out.trans hbx)
        have y0 := EX.out.cell C0.out
        have y1 := EX.out.cell C1.out
        clear hbx hwx x0 c0 c1
        cases cc with
        | true =>
          have ST2 := Lib.hid (show Sp.wlist (l.take (k + 1)) d a most = out ++ [x] by rw [ST.out]; simp)
          go_wp2_with (at_builtin; refine app_new appEnt rfl _ _ rfl w.heap.size _ out.length _ rfl (own_ext M2.out BX.out) #[.string (strOf x.1), .slice Av x.2.length cv] 51 1 rfl rfl (by intro u hu; simp at hu; rcases hu with rfl | rfl <;> rfl) (by decide) (by omega) EX.out.size ?_; intro g4 cap4 w4 hown4 hgr4 hb4 hbg4; have O4 := Lib.hid hown4; have B4 := Lib.hid (Below.trans EX.out hb4); clear hown4 hgr4 hb4 hbg4)
          go_roundw
          case rel =>
            refine ⟨k + 1, by omega, by go_num, ⟨m ++ [(Av, cv, x)], by rw [ST2.out, List.map_append, M1.out]; rfl, ?_, fun y hy => ?_⟩, B4.out⟩
            · rw [ST2.out, List.length_append, entsC_snoc]
              exact O4.out
            · rcases List.mem_append.1 hy with hy | hy
              · exact M3.out y hy
              · rw [List.mem_singleton.1 hy]; exact HVX.out
          case measure => simp [intOf]; omega
        | false =>
          have ST2 := Lib.hid (show Sp.wlist (l.take (k + 1)) d a most = out by rw [ST.out]; simp)
          go_wp2
          go_roundw
          case rel => exact ⟨k + 1, by omega, by go_num, by rw [ST2.out]; exact O1.out.ext BX.out, EX.out⟩
          case measure => simp [intOf]; omega
    · obtain rfl : k = l.length := by omega
      have HO1 := HO.out
      rw [List.take_length] at HO1
      obtain ⟨B, c, rfl, hE⟩ := HO1.ents HB.out
      have HE := Lib.hid hE
      clear HO hE HO1
      go_wp2
      go_ret
      exact ⟨B, c, rfl, HE.out, HB.out⟩
end Go.Proofs.YteiblfcehlibpaaGreatDoor
namespace Go.Proofs.YteiblfcehlibpaaGreatDoor
open Go.RowKit Go.Shelf
attribute [local go_sem] yUpon strOf_toList
theorem drop_eq_cons {α : Type} {l m : List α} {k : Nat} (h : k < l.length) (h' : k < m.length) : (l.drop k = m.drop k) = (l[k] = m[k] ∧ l.drop (k + 1) = m.drop (k + 1)) := by
  rw [List.drop_eq_getElem_cons h, List.drop_eq_getElem_cons h', List.cons.injEq]
set_option maxRecDepth 100000 in
set_option maxHeartbeats 4000000 in
theorem esame_calls (l m : List Sp.DE) (A B : Option Addr) (cap cap' : Nat) (w : World) (h : EntsAt w A l) (h' : EntsAt w B m) (hl : l.length ≤ 1000000) (hs : ∀ e ∈ l, e.2.length ≤ 1000000) :
    Calls Tryz.prog 29 #[.slice A l.length cap, .slice B m.length cap'] w fun e w' => e = .returned (.bool (decide (l = m))) ∧ Ext w w' := by
  have HH := Lib.hid h
  have HH' := Lib.hid h'
  have HS := Lib.hid hs
  clear h h' hs
  by_cases hlm : l.length = m.length
  · have b1 : ((l.length : Int) != (m.length : Int)) = false := by rw [hlm]; simp
    have HL := Lib.hid hlm
    clear hlm
    go_enter Tryz.func29, Tryz.ntmps29
    go_wp2
    go_loopw [5] (fun v5 wr => ∃ k : Nat, k ≤ l.length ∧ v5 = .int .i64 k ∧ (l = m) = (l.drop k = m.drop k) ∧ Ext w wr) (fun v5 _ => l.length - (intOf v5).toNat)
    case atStart => exact ⟨0, Nat.zero_le _, rfl, rfl, Ext.refl _⟩
    case round =>
      obtain ⟨k, hk, rfl, hv, hb⟩ := hrel
      by_cases hlt : k < l.length
      · have hlt' : k < m.length := by have := HL.out; omega
        obtain ⟨g, o, rfl, hc⟩ := (HH.out.ext hb).at (by omega)
        obtain ⟨g', o', rfl, hc'⟩ := (HH'.out.ext hb).at (by omega)
        obtain ⟨Av, cv, c0, c1, hvv⟩ := hc k hlt
        obtain ⟨Bv, dv, d0, d1, hvv'⟩ := hc' k hlt'
        rw [drop_eq_cons hlt hlt'] at hv
        have hls := HS.out _ (List.getElem_mem hlt)
        obtain ⟨x, hx⟩ : ∃ x, x = l[k] := ⟨_, rfl⟩
        obtain ⟨y, hy⟩ : ∃ y, y = m[k] := ⟨_, rfl⟩
        rw [← hx] at c0 c1 hv hvv hls
        rw [← hy] at d0 d1 hv hvv'
        have HV := Lib.hid hv
        have HB := Lib.hid hb
        have C0 := Lib.hid c0
        have C1 := Lib.hid c1
        have D0 := Lib.hid d0
        have D1 := Lib.hid d1
        have b2 : (k : Int) < (l.length : Int) := by omega
        have b3 : (k : Int) < (m.length : Int) := by omega
        have CS := Lib.hid fun W (e : Ext wr W) => rsame_calls x.2 y.2 Av Bv cv dv W (hvv.ext e) (hvv'.ext e) (by omega)
        clear hv hb hc hc' c0 c1 d0 d1 hvv hvv' hx hy hls
        go_wp2_with fail
        by_cases hp : x.1 = y.1
        · have e1 : (x.1 == y.1) = true := by rw [hp]; exact beq_self_eq_true _
          have HP := Lib.hid hp
          clear hp
          refine wp_region_det (fun W => Ext wr W) (by kernel_rfl) (by kernel_rfl) (Below.refl _ _).drew ?_
          repeat (first
            | (refine det_step (fun K hK => ?_)
               apply Exists.intro
               refine ⟨Or.inl ⟨rfl, fun W hS => ?_⟩, ?_⟩
               · replace hS : Ext wr W := hS
                 have f0 := hS.cell C0.out; have f1 := hS.cell C1.out; have z0 := hS.cell D0.out; have z1 := hS.cell D1.out
                 go_simp
                 first
                 | exact rfl
                 | exact ⟨rfl, hS⟩
                 | (refine (CS.out W hS).mono ?_; rintro e w1 ⟨rfl, hb1⟩; exact ⟨rfl, hS.trans hb1⟩)
               go_simp
               refine hK _ ?_
               clear hK K)
            | (refine det_step (fun K hK => ?_); refine det_no' rfl ?_; go_simp; refine hK _ ?_; clear hK K))
          refine det_nil ?_
          intro W9 hS
          replace hS : Ext _ W9 := hS
          have F2 := Lib.hid (show ∀ b : Bool, (!decide (x.2 = y.2)) = b → (b = true → decide (l = m) = false) ∧ (b = false → x = y) from fun b hb => ⟨fun h => by
              subst h
              rw [decide_eq_false_iff_not, HV.out]
              rintro ⟨rfl, _⟩
              simp at hb, fun h => by
              subst h
              have h3 : x.2 = y.2 := by simpa using hb
              exact Prod.ext HP.out h3⟩)
          go_wp2
          · go_ret
            rename_i hn
            exact ⟨by first | (rw [((F2.out _ hn).1 rfl)]; done) | (rw [((F2.out _ hn).1 rfl)]; rfl), HB.out.trans hS⟩
          · rename_i hn
            go_roundw
            case rel => exact ⟨k + 1, by omega, by go_num, by rw [HV.out, (F2.out _ hn).2 rfl]; simp, HB.out.trans hS⟩
            case measure => simp [intOf]; omega
        · have e1 : (x.1 == y.1) = false := by rw [beq_eq_false_iff_ne]; exact hp
          have F := Lib.hid (show decide (l = m) = false by rw [decide_eq_false_iff_not, HV.out]; rintro ⟨rfl, _⟩; exact hp rfl)
          clear hp
          refine wp_region_det (fun W => Ext wr W) (by kernel_rfl) (by kernel_rfl) (Below.refl _ _).drew ?_
          repeat (first
            | (refine det_step (fun K hK => ?_)
               apply Exists.intro
               refine ⟨Or.inl ⟨rfl, fun W hS => ?_⟩, ?_⟩
               · replace hS : Ext wr W := hS
                 have f0 := hS.cell C0.out; have f1 := hS.cell C1.out; have z0 := hS.cell D0.out; have z1 := hS.cell D1.out
                 go_simp
                 first
                 | exact rfl
                 | exact ⟨rfl, hS⟩
                 | (fail)
               go_simp
               refine hK _ ?_
               clear hK K)
            | (refine det_step (fun K hK => ?_); refine det_no' rfl ?_; go_simp; refine hK _ ?_; clear hK K))
          refine det_nil ?_
          intro W9 hS
          replace hS : Ext _ W9 := hS
          go_wp2
          go_ret
          exact ⟨by first | (rw [F.out]; done) | (rw [F.out]; rfl), HB.out.trans hS⟩
      · obtain rfl : k = l.length := by omega
        have F := Lib.hid (show decide (l = m) = true by rw [decide_eq_true_iff, hv, List.drop_length, HL.out, List.drop_length])
        clear hv
        go_wp2
        go_ret
        exact ⟨by first | (rw [F.out]; done) | (rw [F.out]; rfl), hb⟩
  · have b1 : ((l.length : Int) != (m.length : Int)) = true := by rw [bne_iff_ne]; omega
    have F := Lib.hid (show decide (l = m) = false by rw [decide_eq_false_iff_not]; rintro rfl; exact hlm rfl)
    clear hlm
    go_enter Tryz.func29, Tryz.ntmps29
    go_wp2
    go_ret
    exact ⟨by first | (rw [F.out]; done) | (rw [F.out]; rfl), Ext.refl _⟩
end Go.Proofs.YteiblfcehlibpaaGreatDoor
namespace Go.Proofs.YteiblfcehlibpaaGreatDoor
open Go.RowKit Go.Shelf
attribute [local go_sem] yUpon strOf_toList
set_option maxRecDepth 100000 in
set_option maxHeartbeats 4000000 in
theorem rlive2_calls (l : List Sp.Ver) (A : Option Addr) (cap : Nat) (w0 w : World) (e0 : Ext w0 w) (h : Vers w0 A l) (hl : l.length ≤ 1000000) : Calls Tryz.prog 61 #[.slice A l.length cap] w fun e w' => ∃ (v : Value) (m : List (Option Addr × Nat × Sp.Ver)), e = .returned v ∧ m.map (·.2.2) = Sp.live l ∧ w'.ownsRow w.heap.size 75 5 v (Sp.live l).length (versC m) ∧ (∀ x ∈ m, Past w0 x.1 x.2.2) ∧ Ext w w' := by
  go_enter Tryz.func61, Tryz.ntmps61
  go_wp2
  go_loopw [3, 4] (fun v3 v8 wr => ∃ k : Nat, k ≤ l.length ∧ v8 = .int .i64 k ∧ (∃ m : List (Option Addr × Nat × Sp.Ver), m.map (·.2.2) = Sp.live (l.take k) ∧ wr.ownsRow w.heap.size 75 5 v3 m.length (versC m) ∧ ∀ x ∈ m, Past w0 x.1 x.2.2) ∧ Ext w wr) (fun _ v8 _ => l.length - (intOf v8).toNat)
  case atStart => exact ⟨0, Nat.zero_le _, rfl, ⟨[], rfl, ⟨rfl, .inl ⟨rfl, rfl⟩⟩, fun _ h => by cases h⟩, Ext.refl _⟩
  case round =>
    obtain ⟨k, hk, rfl, ⟨m, hm, hown, hp⟩, hb⟩ := hrel
    by_cases hlt : k < l.length
    · obtain ⟨g, o, rfl, hc0⟩ := h.at (by omega)
      obtain ⟨A', c', hvc, hpast⟩ := hc0 k hlt
      obtain ⟨c0, c1, c2, c3, c4⟩ := hvc.ext (e0.trans hb)
      have HC := Lib.hid hpast
      have HP := Lib.hid hp
      have ml : m.length ≤ k := by
        have := congrArg List.length hm
        rw [List.length_map] at this
        rw [this]
        unfold Sp.live
        exact Nat.le_trans (List.length_filter_le _ _) (List.length_take_le _ _)
      have st : Sp.live (l.take (k + 1)) = Sp.live (l.take k) ++ if l[k].dead then [] else [l[k]] := by
        unfold Sp.live
        rw [List.take_succ_eq_append_getElem hlt, List.filter_append]
        cases hh : l[k].dead <;> simp [hh]
      have HM := Lib.hid hm
      have HO := Lib.hid hown
      clear hm hown hp hvc hpast hc0
      by_cases hd : l[k].dead = true
      · rw [hd] at c3
        rw [if_pos hd, List.append_nil] at st
        have ST := Lib.hid st
        clear st
        go_wp2_with fail
        go_roundw
        case rel => exact ⟨k + 1, by omega, by go_num, ⟨m, by rw [ST.out]; exact HM.out, HO.out, HP.out⟩, hb⟩
        case measure => simp [intOf]; omega
      · have hd' : l[k].dead = false := by simpa using hd
        rw [hd'] at c3
        rw [if_neg hd] at st
        have ST := Lib.hid st
        have HD := Lib.hid hd'
        clear st hd hd'
        go_wp2_with (at_builtin; refine app_new appVer rfl _ _ rfl w.heap.size _ m.length _ rfl (HO.out) #[.int .i64 l[k].dot.1, .int .i64 l[k].dot.2, .slice A' l[k].past.length c', .bool false, .string (strOf l[k].data)] 75 1 rfl rfl (by intro u hu; simp at hu; rcases hu with rfl | rfl | rfl | rfl | rfl <;> rfl) (by decide) (by omega) (hb.size) ?_; intro g6 cap6 w6 hown6 hgr6 hb6 hbg6; have O6 := Lib.hid hown6; have B6 := Lib.hid hb6; clear hown6 hgr6 hb6)
        go_roundw
        case rel =>
          refine ⟨k + 1, by omega, by go_num, ⟨m ++ [(A', c', l[k])], ?_, ?_, ?_⟩, B6.out.from hb⟩
          · rw [List.map_append, HM.out, ST.out]; rfl
          · rw [versC_append, List.length_append]
            have := O6.out
            simpa [versC, HD.out] using this
          · intro x hx
            rcases List.mem_append.1 hx with h1 | h1
            · exact HP.out x h1
            · obtain rfl := List.mem_singleton.1 h1
              exact HC.out
        case measure => simp [intOf]; omega
    · obtain rfl : k = l.length := by omega
      rw [List.take_length] at hm
      have HM := Lib.hid hm
      clear hm
      go_wp2
      go_ret
      refine ⟨_, m, rfl, HM.out, ?_, hp, hb⟩
      rw [← HM.out, List.length_map]
      exact hown
namespace Sp
def shownM (m : List DE) : List DE := m.filterMap fun e => if live e.2 = [] then none else some (e.1, live e.2)
theorem toP_shown (m : List DE) : toP (shownM m) = shownE (toP m) := by
  induction m with
  | nil => rfl
  | cons e r ih =>
    unfold shownM shownE toP at *
    rw [List.map_cons, List.filterMap_cons, List.filterMap_cons]
    by_cases h : live e.2 = []
    · simp only [h, if_true]; exact ih
    · simp only [h, if_false, List.map_cons]; rw [ih]
theorem shownM_step (m : List DE) (k : Nat) (h : k < m.length) : shownM (m.take (k + 1)) = shownM (m.take k) ++ if live (m[k]).2 = [] then [] else [((m[k]).1, live (m[k]).2)] := by
  unfold shownM
  rw [List.take_succ_eq_append_getElem h, List.filterMap_append]
  by_cases hl : live (m[k]).2 = [] <;> simp [hl]
theorem shownM_len (m : List DE) : (shownM m).length ≤ m.length := List.length_filterMap_le _ _
end Sp
/-- An entry whose versions were gathered: their vectors were there before. -/
def LiveAt (w wr : World) (x : Option Addr × Nat × Sp.DE) : Prop := ∃ mv : List (Option Addr × Nat × Sp.Ver), mv.map (·.2.2) = x.2.2.2 ∧ wr.ownsRow 0 75 5 (.slice x.1 x.2.2.2.length x.2.1) x.2.2.2.length (versC mv) ∧ ∀ y ∈ mv, Past w y.1 y.2.2
theorem LiveAt.keep {T : TypeId → Prop} (hT : ¬ T 75) {B : Nat} {w wr w' : World} {x : Option Addr × Nat × Sp.DE} (h : LiveAt w wr x) (k : KB T B wr w') : LiveAt w w' x := by
  obtain ⟨mv, h1, h2, h3⟩ := h
  exact ⟨mv, h1, own_keep hT h2 k, h3⟩
theorem LiveAt.vers {w wr : World} {x : Option Addr × Nat × Sp.DE} (h : LiveAt w wr x) (e : Ext w wr) : Vers wr x.1 x.2.2.2 := by
  obtain ⟨mv, h1, h2, h3⟩ := h
  obtain ⟨A, c, e2, hc⟩ := own_read h2
  cases e2
  exact ⟨mv, h1, hc, fun y hy => (h3 y hy).ext e⟩
set_option maxRecDepth 100000 in
set_option maxHeartbeats 4000000 in
theorem rshown_calls (m : List Sp.DE) (A : Option Addr) (cap : Nat) (w : World) (h : EntsAt w A m) (hl : m.length ≤ 1000000) (hs : ∀ e ∈ m, e.2.length ≤ 1000000) :
    Calls Tryz.prog 39 #[.slice A m.length cap] w fun e w' => ∃ B c, e = .returned (.slice B (Sp.shownM m).length c) ∧ EntsAt w' B (Sp.shownM m) ∧ Ext w w' := by
  have HH := Lib.hid h
  have HS := Lib.hid hs
  clear h hs
  go_enter Tryz.func39, Tryz.ntmps39
  go_wp2
  go_loopw [3, 4] (fun v3 v4 wr => ∃ k : Nat, k ≤ m.length ∧ v4 = .int .i64 k ∧ (∃ mo : List (Option Addr × Nat × Sp.DE), mo.map (·.2.2) = Sp.shownM (m.take k) ∧ wr.ownsRow w.heap.size 51 2 v3 mo.length (entsC mo) ∧ ∀ x ∈ mo, LiveAt w wr x) ∧ Ext w wr) (fun _ v4 _ => m.length - (intOf v4).toNat)
  case atStart => exact ⟨0, Nat.zero_le _, rfl, ⟨[], rfl, World.ownsRow_nil _ _ _ _, fun _ h => by cases h⟩, Ext.refl _⟩
  case round =>
    obtain ⟨k, hk, rfl, ⟨mo, hm, hown, hp⟩, hb⟩ := hrel
    by_cases hlt : k < m.length
    · obtain ⟨eb, eo, rfl, he⟩ := HH.out.at (by omega)
      obtain ⟨Av, cv, c0, c1, hv⟩ := he k hlt
      have st := Sp.shownM_step m k hlt
      have hls := HS.out _ (List.getElem_mem hlt)
      obtain ⟨x, hx⟩ : ∃ x, x = m[k] := ⟨_, rfl⟩
      rw [← hx] at c0 c1 hv st hls
      have f0 := hb.cell c0
      have f1 := hb.cell c1
      have ml : mo.length ≤ k := by
        have := congrArg List.length hm
        rw [List.length_map] at this
        rw [this]
        exact Nat.le_trans (Sp.shownM_len _) (List.length_take_le _ _)
      have LV := Lib.hid (rlive2_calls x.2 Av cv w wr hb hv hls)
      have HM := Lib.hid hm
      have HO := Lib.hid hown
      have HP := Lib.hid hp
      have HB := Lib.hid hb
      have ST := Lib.hid st
      have C0 := Lib.hid c0
      have b1 : (k : Int) < (m.length : Int) := by omega
      clear hm hown hp hb st c0 c1 he hv hls hx
      go_wp2_with fail
      refine LV.out.mono ?_
      rintro e w2 ⟨v2, mv, rfl, hmv, hO2, hpv, hb2⟩
      obtain ⟨A2, c2, rfl, _⟩ := own_read hO2
      have O2 := Lib.hid hO2
      have MV := Lib.hid hmv
      have PV := Lib.hid hpv
      have B2 := Lib.hid hb2
      have E2 := Lib.hid (HB.out.trans hb2)
      clear hO2 hmv hpv hb2 f0 f1
      by_cases hl0 : Sp.live x.2 = []
      · have e1 : decide (0 < (Sp.live x.2).length) = false := by rw [hl0]; rfl
        have ST2 := Lib.hid (show Sp.shownM (m.take (k + 1)) = Sp.shownM (m.take k) by rw [ST.out, if_pos hl0, List.append_nil])
        clear hl0
        go_wp2
        go_roundw
        case rel => exact ⟨k + 1, by omega, by go_num, ⟨mo, by rw [ST2.out]; exact HM.out, own_ext HO.out B2.out, fun y hy => (HP.out y hy).keep (T := noT) (fun h => h) (KB.ext HB.out.size B2.out)⟩, E2.out⟩
        case measure => simp [intOf]; omega
      · have e1 : decide (0 < (Sp.live x.2).length) = true := decide_eq_true (List.length_pos_iff.2 hl0)
        have ST2 := Lib.hid (show Sp.shownM (m.take (k + 1)) = Sp.shownM (m.take k) ++ [(x.1, Sp.live x.2)] by rw [ST.out, if_neg hl0])
        have f0 := E2.out.cell C0.out
        clear hl0
        go_wp2_with (at_builtin; refine app_new appEnt rfl _ _ rfl w.heap.size _ mo.length _ rfl (own_ext HO.out B2.out) #[.string (strOf x.1), .slice A2 (Sp.live x.2).length c2] 51 1 rfl rfl (by intro u hu; simp at hu; rcases hu with rfl | rfl <;> rfl) (by decide) (by omega) (E2.out.size) ?_; intro g6 cap6 w6 hown6 hgr6 hb6 hbg6; have O6 := Lib.hid hown6; have G6 := Lib.hid hgr6; have B6 := Lib.hid hb6; clear hown6 hgr6 hb6 hbg6)
        have KG := Lib.hid (show KB (fun t => t = 51) w.heap.size w2 w6 from KB.grown (own_ext HO.out B2.out) rfl G6.out B6.out)
        go_roundw
        case rel =>
          refine ⟨k + 1, by omega, by go_num, ⟨mo ++ [(A2, c2, (x.1, Sp.live x.2))], ?_, ?_, fun y hy => ?_⟩, Below.trans E2.out B6.out⟩
          · rw [List.map_append, HM.out, ST2.out]; rfl
          · rw [entsC_snoc, List.length_append]
            exact O6.out
          · rcases List.mem_append.1 hy with h1 | h1
            · exact ((HP.out y h1).keep (T := noT) (fun h => h) (KB.ext HB.out.size B2.out)).keep (by intro h; cases h) KG.out
            · obtain rfl := List.mem_singleton.1 h1
              exact LiveAt.keep (T := fun t => t = 51) (by intro h; cases h) ⟨mv, MV.out, own_lowT O2.out (Nat.zero_le _), PV.out⟩ KG.out
        case measure => simp [intOf]; omega
    · obtain rfl : k = m.length := by omega
      rw [List.take_length] at hm
      have hlen : mo.length = (Sp.shownM m).length := by rw [← hm, List.length_map]
      rw [hlen] at hown
      obtain ⟨B, c, rfl, hc⟩ := own_read hown
      have HE := Lib.hid (show EntsAt wr B (Sp.shownM m) from ⟨mo, hm, hc, fun y hy => (hp y hy).vers hb⟩)
      have HB := Lib.hid hb
      clear hm hown hp hb hc hlen
      go_wp2
      go_ret
      exact ⟨B, c, rfl, HE.out, HB.out⟩
end Go.Proofs.YteiblfcehlibpaaGreatDoor
