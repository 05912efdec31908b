/- Deltas: what the document says is opened, and where leaves differ. Deltas, plain: what is opened by the nodes of two trees is what the document opens. What users see change, plain. Deltas: the example of chapter 18; two lists that are not too much; two trees. The document's winner of a leaf. Watching: what the document says changed between two lists. -/
import Derived.Test.YtmlfnidckfeebaaGreatDoorQQ024
import Derived.Test.YtmlfnidckfeebaaGreatDoorQQ032
namespace Go.Proofs.YtmlfnidckfeebaaGreatDoor
open Go.RowKit Go.Shelf
attribute [local go_sem] yUpon strOf_toList
namespace Sp
def dkeep (ma mb : List DE) (d : Bs) : Bool := decide (d ≠ []) && !decide (rget ma d = rget mb d)
end Sp
set_option maxRecDepth 100000 in
theorem ropened_calls (oa ob : Option Sp.T) (ma mb : List Sp.DE) (PA : Sp.Both oa ma) (PB : Sp.Both ob mb) (A B : Option Addr) (cap cap' : Nat) (w : World) (hA : EntsAt w A ma) (hB : EntsAt w B mb) (K : KeysAt w 0) :
    Calls Tryz.prog 21 #[.slice A ma.length cap, .slice B mb.length cap'] w fun e w' => ∃ v, e = .returned v ∧ w'.ownsRow w.heap.size 9 1 v (Sp.openS oa ob (ma ++ mb) 5 []).length (strsC (Sp.openS oa ob (ma ++ mb) 5 [])) ∧ Ext w w' := by
  have RO := Lib.hid (ropen_calls oa ob ma mb PA PB A B cap cap' 5 [] w (by decide) (by decide) (.inl rfl) hA hB K)
  clear PA PB hA hB K
  go_enter Tryz.func21, Tryz.ntmps21
  go_wp2_with fail
  refine RO.out.mono ?_
  rintro e w1 ⟨v1, rfl, hO1, hb1⟩
  have O1 := Lib.hid hO1
  have E1 := Lib.hid hb1
  clear hO1 hb1 RO
  go_wp2
  go_ret
  exact ⟨_, rfl, O1.out, E1.out⟩
set_option maxRecDepth 100000 in
set_option maxHeartbeats 4000000 in
theorem rdiffer_calls (oa ob : Option Sp.T) (ma mb : List Sp.DE) (PA : Sp.Both oa ma) (PB : Sp.Both ob mb) (A B : Option Addr) (cap cap' : Nat) (w : World) (hA : EntsAt w A ma) (hB : EntsAt w B mb) (K : KeysAt w 0) :
    Calls Tryz.prog 23 #[.slice A ma.length cap, .slice B mb.length cap'] w fun e w' => ∃ v, e = .returned v ∧ w'.ownsRow w.heap.size 9 1 v ((Sp.openS oa ob (ma ++ mb) 5 []).filter (Sp.dkeep ma mb)).length (strsC ((Sp.openS oa ob (ma ++ mb) 5 []).filter (Sp.dkeep ma mb))) ∧ Ext w w' := by
  have RO := Lib.hid (ropened_calls oa ob ma mb PA PB A B cap cap' w hA hB K)
  have LL := Sp.openS_len oa ob (ma ++ mb) (by have := PA.gm.2; have := PB.gm.2; rw [List.length_append]; omega) 5 []
  have p5' : (257 : Nat) ^ 5 = 1121154893057 := by decide
  rw [p5'] at LL
  obtain ⟨L, hL⟩ : ∃ L, L = Sp.openS oa ob (ma ++ mb) 5 [] := ⟨_, rfl⟩
  rw [← hL] at RO LL ⊢
  have HA := Lib.hid hA
  have HB := Lib.hid hB
  have la := PA.gm.2
  have lb := PB.gm.2
  have RGA := Lib.hid fun d W (e : Ext w W) => rget_calls ma A cap d W (HA.out.ext e) (by omega)
  have RGB := Lib.hid fun d W (e : Ext w W) => rget_calls mb B cap' d W (HB.out.ext e) (by omega)
  have VL := Lib.hid (show ∀ d, (Sp.rget ma d).length ≤ 140737488351232 from fun d => by
    rcases Sp.rget_mem ma d with h | ⟨e, he, h⟩
    · rw [h]; exact Nat.zero_le _
    · rw [h]; exact Nat.le_trans (PA.leaf e he) (by decide))
  clear hL PA PB hA hB K p5'
  go_enter Tryz.func23, Tryz.ntmps23
  go_wp2_with fail
  refine RO.out.mono ?_
  rintro e w1 ⟨v1, rfl, hO1, hb1⟩
  obtain ⟨A1, c1, rfl, hc1⟩ := own_read hO1
  have N1 := Lib.hid (show Nams w1 A1 L from hc1)
  have E1 := Lib.hid hb1
  clear hO1 hb1 hc1 RO
  go_wp2
  go_loopw [5, 7] (fun v5 v7 wr => ∃ k : Nat, k ≤ L.length ∧ v7 = .int .i64 k ∧ wr.ownsRow w1.heap.size 9 1 v5 ((L.take k).filter (Sp.dkeep ma mb)).length (strsC ((L.take k).filter (Sp.dkeep ma mb))) ∧ Ext w1 wr) (fun _ v7 _ => L.length - (intOf v7).toNat)
  case atStart => exact ⟨0, Nat.zero_le _, rfl, World.ownsRow_nil _ _ _ _, Ext.refl _⟩
  case round =>
    obtain ⟨k, hk, rfl, hO, hb⟩ := hrel
    by_cases hlt : k < L.length
    · obtain ⟨nb, no, rfl, hnm⟩ := N1.out.at (by omega)
      have C0 := Lib.hid (hnm k hlt)
      have FT := Lib.hid (Sp.filter_take (Sp.dkeep ma mb) L k hlt)
      have ql : ((L.take k).filter (Sp.dkeep ma mb)).length ≤ k := Nat.le_trans (List.length_filter_le _ _) (List.length_take_le _ _)
      obtain ⟨q, hq⟩ : ∃ q, q = (L.take k).filter (Sp.dkeep ma mb) := ⟨_, rfl⟩
      rw [← hq] at hO FT ql
      obtain ⟨x, hx⟩ : ∃ x, x = L[k] := ⟨_, rfl⟩
      rw [← hx] at C0 FT
      have HX := Lib.hid hb
      have HO := Lib.hid hO
      have EX := Lib.hid (E1.out.trans hb)
      have b1 : (k : Int) < (L.length : Int) := by omega
      have GA := Lib.hid (RGA.out x)
      have GB := Lib.hid (RGB.out x)
      have VX := Lib.hid (VL.out x)
      have DK := Lib.hid (show Sp.dkeep ma mb x = (decide (x ≠ []) && !decide (Sp.rget ma x = Sp.rget mb x)) from rfl)
      obtain ⟨p, hp⟩ : ∃ p, p = Sp.dkeep ma mb x := ⟨_, rfl⟩
      rw [← hp] at FT DK
      obtain ⟨lx, hlx⟩ : ∃ lx, lx = Sp.rget ma x := ⟨_, rfl⟩
      obtain ⟨ly, hly⟩ : ∃ ly, ly = Sp.rget mb x := ⟨_, rfl⟩
      rw [← hlx] at GA VX DK
      rw [← hly] at GB DK
      clear hb hO hq hx hnm hp hlx hly
      go_upto_region 6 with fail
      go_cut [37] (fun v37 wx => v37 = .bool p ∧ Ext wr wx)
      case first =>
        go_wp2_with fail
        refine wp_region_planT (fun W => Ext wr W) 19 [(true, 0), (true, 1), (true, 2), (true, 3), (true, 4), (true, 5), (true, 6), (true, 7), (true, 8), (true, 9), (true, 10), (true, 12), (true, 13), (true, 14), (true, 15), (true, 16), (false, 11), (false, 17), (false, 18)] (by kernel_rfl) (by kernel_rfl) (Ext.refl wr).drew ?_
        by_cases hx0 : x = []
        · have q1 : (x == []) = true := by rw [hx0]; rfl
          have q2 : x.isEmpty = true := by rw [hx0]; rfl
          have P0 := Lib.hid (show p = false by rw [DK.out, hx0]; rfl)
          clear hx0
          repeat (refine plan_float rfl (fun K hK => ?_)
                  first
                  | (apply Exists.intro
                     refine ⟨Or.inl ⟨rfl, fun W hS => ?_⟩, ?_⟩
                     · have hz : Ext wr W := hS; have f0 := (HX.out.trans hz).cell C0.out
                       go_simp
                       first | done | exact rfl
                     go_simp
                     refine hK _ ?_
                     clear hK K)
                  | (refine floatT_no' rfl ?_; go_simp; refine hK _ ?_; clear hK K))
          refine plan_only rfl (fun Q' hQ' => ?_)
          go_wp2
          refine hQ' _ _ (Ext.refl wr).drew ?_
          clear hQ'
          refine plan_only rfl (fun Q' hQ' => ?_)
          go_wp2
          refine hQ' _ _ (Ext.refl wr).drew ?_
          clear hQ'
          refine plan_only rfl (fun Q' hQ' => ?_)
          go_wp2
          refine hQ' _ _ (Ext.refl wr).drew ?_
          clear hQ'
          refine plan_nil ?_
          go_wp2
          refine ⟨rfl, ?_⟩
          go_wp2
          go_meet
          case rel => exact ⟨by rw [P0.out], (Ext.refl wr).drew⟩
        · have q1 : (x == []) = false := by rw [beq_eq_false_iff_ne]; exact hx0
          have q2 : x.isEmpty = false := by cases x with | nil => exact absurd rfl hx0 | cons _ _ => rfl
          have P0 := Lib.hid (show p = !decide (lx = ly) by rw [DK.out, decide_eq_true hx0, Bool.true_and])
          clear hx0
          repeat (refine plan_float rfl (fun K hK => ?_)
                  first
                  | (apply Exists.intro
                     refine ⟨Or.inl ⟨rfl, fun W hS => ?_⟩, ?_⟩
                     · have hz : Ext wr W := hS; have f0 := (HX.out.trans hz).cell C0.out
                       go_simp
                       first | done | exact rfl
                     go_simp
                     refine hK _ ?_
                     clear hK K)
                  | (refine floatT_no' rfl ?_; go_simp; refine hK _ ?_; clear hK K))
          refine plan_only rfl (fun Q' hQ' => ?_)
          go_wp2_with fail
          refine (GA.out _ (EX.out.trans (Ext.refl wr).drew)).mono ?_
          rintro e w6 ⟨Aa, ca, rfl, hva, rfl⟩
          have VA := Lib.hid hva
          clear hva
          go_wp2
          refine hQ' _ _ (Ext.refl wr).drew ?_
          clear hQ'
          refine plan_only rfl (fun Q' hQ' => ?_)
          go_wp2_with fail
          refine (GB.out _ (EX.out.trans (Ext.refl wr).drew)).mono ?_
          rintro e w6 ⟨Ab, cb, rfl, hvb, rfl⟩
          have VB := Lib.hid hvb
          clear hvb
          go_wp2
          refine hQ' _ _ (Ext.refl wr).drew ?_
          clear hQ'
          refine plan_only rfl (fun Q' hQ' => ?_)
          go_wp2_with fail
          refine (rsame_calls lx ly Aa Ab ca cb _ VA.out VB.out VX.out).mono ?_
          rintro e w7 ⟨rfl, hb7⟩
          have E7 := Lib.hid (show Ext wr w7 from ((Ext.refl wr).drew).trans hb7)
          clear hb7
          go_wp2
          refine hQ' _ _ E7.out ?_
          clear hQ'
          refine plan_nil ?_
          go_wp2
          refine ⟨rfl, ?_⟩
          go_wp2
          go_meet
          case rel => exact ⟨by rw [P0.out], E7.out⟩
      case rest =>
        obtain ⟨rfl, hbx⟩ := hcut
        obtain ⟨wx, hwx⟩ : ∃ wx, wx = wc := ⟨_, rfl⟩
        rw [← hwx] at hbx ⊢
        have EW := Lib.hid (HX.out.trans hbx)
        have OW := Lib.hid (own_ext HO.out hbx)
        have f0 := EW.out.cell C0.out
        clear hbx hwx
        cases p with
        | false =>
          have FT2 := Lib.hid (show (L.take (k + 1)).filter (Sp.dkeep ma mb) = q by rw [FT.out]; simp)
          go_wp2
          go_roundw
          case rel => exact ⟨k + 1, by omega, by go_num, by rw [FT2.out]; exact OW.out, EW.out⟩
          case measure => simp [intOf]; omega
        | true =>
          have FT2 := Lib.hid (show (L.take (k + 1)).filter (Sp.dkeep ma mb) = q ++ [x] by rw [FT.out]; simp)
          have tokA : True := trivial
          go_wp2_with (have _t := tokA; at_builtin; refine app_new appStr rfl _ _ rfl w1.heap.size _ q.length _ rfl OW.out #[.string (strOf x)] 9 1 rfl rfl (by intro u hu; simp at hu; subst hu; rfl) (by decide) (by omega) EW.out.size ?_; intro g9 cap9 w9 hown9 hgr9 hb9 hbg9; have O9 := Lib.hid hown9; have B9 := Lib.hid (Below.trans EW.out hb9); clear tokA _t hown9 hgr9 hb9 hbg9)
          go_roundw
          case rel =>
            refine ⟨k + 1, by omega, by go_num, ?_, B9.out⟩
            rw [FT2.out, List.length_append, strsC, List.map_append]
            exact O9.out
          case measure => simp [intOf]; omega
    · obtain rfl : k = L.length := by omega
      rw [List.take_length] at hO
      have HO := Lib.hid hO
      have HX := Lib.hid hb
      clear hO hb
      go_wp2
      go_ret
      exact ⟨_, rfl, own_lowT HO.out E1.out.size, E1.out.trans HX.out⟩
end Go.Proofs.YtmlfnidckfeebaaGreatDoor
namespace Go.Proofs.YtmlfnidckfeebaaGreatDoor
open Go.RowKit
namespace Sp
theorem keep_both {oa ob : Option T} {ma mb : List DE} (PA : Both oa ma) (PB : Both ob mb) {d : Bs} (hd : Dir d) : dkeep ma mb d = leafdiff (oa.getD .nil) (ob.getD .nil) d := by
  unfold dkeep leafdiff
  rw [(names_node PA hd).2, (names_node PB hd).2]
  by_cases h : d = []
  · subst h
    rw [leaf_root PA, leaf_root PB]
    rfl
  · rw [decide_eq_true h, Bool.true_and]
theorem differ_all {oa ob : Option T} {ma mb : List DE} (PA : Both oa ma) (PB : Both ob mb) : (openS oa ob (ma ++ mb) 5 []).filter (dkeep ma mb) = (openedT (oa.getD .nil) (ob.getD .nil)).filter (leafdiff (oa.getD .nil) (ob.getD .nil)) := by
  rw [opened_both PA PB]
  unfold openedT
  split
  · rfl
  · refine List.filter_congr fun d hd => keep_both PA PB (openT_dir PA PB 5 [] (.inl rfl) d hd)
end Sp
end Go.Proofs.YtmlfnidckfeebaaGreatDoor
namespace Go.Proofs.YtmlfnidckfeebaaGreatDoor
open Go.RowKit
namespace Sp
def backC (c : Chg) : Chg := ⟨c.path, if c.kind = 1 then 2 else if c.kind = 2 then 1 else c.kind, c.now, c.was⟩
theorem diff_swap (oa ob : Option T) (d : Bs) : diffS oa ob d = diffS ob oa d := by
  unfold diffS
  cases findS (oa.getD .nil) d <;> cases findS (ob.getD .nil) d <;> simp [eq_comm]
theorem below_swap {ma mb : List DE} (ha : ∀ e ∈ ma, check e.1 = 0) (hb : ∀ e ∈ mb, check e.1 = 0) (d : Bs) : belowS d (ma ++ mb) = belowS d (mb ++ ma) := by
  have h1 : ∀ e ∈ ma ++ mb, check e.1 = 0 := fun e he => (List.mem_append.1 he).elim (ha e) (hb e)
  have h2 : ∀ e ∈ mb ++ ma, check e.1 = 0 := fun e he => (List.mem_append.1 he).elim (hb e) (ha e)
  refine rise_ext _ _ (belowS_rise h1 d).1 (belowS_rise h2 d).1 fun x => ?_
  rw [(belowS_rise h1 d).2 x, (belowS_rise h2 d).2 x]
  constructor
  · rintro ⟨e, he, h⟩
    exact ⟨e, by rw [List.mem_append] at *; exact he.symm, h⟩
  · rintro ⟨e, he, h⟩
    exact ⟨e, by rw [List.mem_append] at *; exact he.symm, h⟩
theorem open_swap {oa ob : Option T} {ma mb : List DE} (ha : ∀ e ∈ ma, check e.1 = 0) (hb : ∀ e ∈ mb, check e.1 = 0) : ∀ (f : Nat) (d : Bs), openS oa ob (ma ++ mb) f d = openS ob oa (mb ++ ma) f d
  | 0, d => rfl
  | f + 1, d => by
    rw [openS, openS, diff_swap oa ob, below_swap ha hb]
    have : (fun n => openS oa ob (ma ++ mb) f (down d n)) = fun n => openS ob oa (mb ++ ma) f (down d n) := funext fun n => open_swap ha hb f (down d n)
    rw [this]
theorem differ_swap {oa ob : Option T} {ma mb : List DE} (PA : Both oa ma) (PB : Both ob mb) : differT (oa.getD .nil) (ob.getD .nil) = differT (ob.getD .nil) (oa.getD .nil) := by
  unfold differT
  rw [← differ_all PA PB, ← differ_all PB PA, open_swap PA.gm.1 PB.gm.1]
  refine List.filter_congr fun d _ => ?_
  unfold dkeep
  congr 2
  simp [eq_comm]
theorem kind_back (p : Bs) (x y : List Ver) : (changeS p y x).map backC = changeS p x y := by
  unfold changeS kindS
  by_cases hx : live x = [] <;> by_cases hy : live y = []
  · have dx : data0 x = [] := by unfold data0 winner; rw [hx]; rfl
    have dy : data0 y = [] := by unfold data0 winner; rw [hy]; rfl
    simp [hx, hy, dx, dy]
  · simp [hx, hy, backC]
  · simp [hx, hy, backC]
  · by_cases hd : data0 x = data0 y
    · by_cases hn : (live x).length = (live y).length
      · simp [hx, hy, hd, hn]
      · have hn2 : ¬ (live y).length = (live x).length := fun h => hn h.symm
        simp [hx, hy, hd, hn, hn2, backC]
    · have hd2 : ¬ data0 y = data0 x := fun h => hd h.symm
      simp [hx, hy, hd, hd2, backC]
theorem between_back {oa ob : Option T} {ma mb : List DE} (PA : Both oa ma) (PB : Both ob mb) : (betweenS (ob.getD .nil) (oa.getD .nil)).map backC = betweenS (oa.getD .nil) (ob.getD .nil) := by
  unfold betweenS betweenL
  rw [List.map_filterMap, differ_swap PB PA]
  refine fm_congr _ fun p _ => kind_back p _ _
end Sp
end Go.Proofs.YtmlfnidckfeebaaGreatDoor
namespace Go.Proofs.YtmlfnidckfeebaaGreatDoor
open Go.RowKit Go.Shelf
attribute [local go_sem] yUpon strOf_toList
namespace Sp
end Sp
set_option maxRecDepth 100000 in
theorem great18_calls (l m : List Sp.DE) (A B : Option Addr) (c c' : Nat) (w : World) (h : EntsAt w A l) (h' : EntsAt w B m) :
    Calls Tryz.prog 15 #[.slice A l.length c, .slice B m.length c'] w fun e w' => ∃ b : Bool, e = .returned (.bool b) ∧ (b = false → (l.length ≤ 12 ∧ ∀ e ∈ l, e.1.length ≤ 200) ∧ m.length ≤ 12 ∧ ∀ e ∈ m, e.1.length ≤ 200) ∧ Ext w w' := by
  have HH := Lib.hid h
  have HH' := Lib.hid h'
  clear h h'
  go_enter Tryz.func15, Tryz.ntmps15
  go_wp2_with fail
  refine (great15_calls l A c 12 w HH.out (by decide)).mono ?_
  rintro e w1 ⟨b, rfl, hgr, hb1⟩
  have E1 := Lib.hid (show Ext w w1 from hb1)
  have G1 := Lib.hid hgr
  clear hgr hb1
  cases b with
  | true =>
    go_wp2
    go_ret
    exact ⟨true, rfl, (fun h => by cases h), E1.out⟩
  | false =>
    go_wp2_with fail
    refine (great15_calls m B c' 12 w1 (HH'.out.ext E1.out) (by decide)).mono ?_
    rintro e w2 ⟨b, rfl, hgr, hb2⟩
    have E2 := Lib.hid (show Ext w w2 from E1.out.trans hb2)
    have G2 := Lib.hid hgr
    clear hgr hb2
    go_wp2
    go_ret
    exact ⟨b, rfl, fun h => ⟨G1.out (by first | rfl | trivial), G2.out h⟩, E2.out⟩
end Go.Proofs.YtmlfnidckfeebaaGreatDoor
namespace Go.Proofs.YtmlfnidckfeebaaGreatDoor
open Go.RowKit Go.Shelf
attribute [local go_sem] yUpon strOf_toList
set_option maxRecDepth 100000 in
set_option maxHeartbeats 4000000 in
theorem rwins_is (a b : Sp.Ver) (A B : Option Addr) (c d : Nat) (w : World) : Calls Tryz.prog 182 #[.agg (verC A c a), .agg (verC B d b)] w fun e w' => e = .returned (.bool (Sp.wins a b)) ∧ Ext w w' := by
  show Calls Tryz.prog 182 #[.agg #[.int .i64 a.dot.1, .int .i64 a.dot.2, .slice A a.past.length c, .bool a.dead, .string (strOf a.data)], .agg #[.int .i64 b.dot.1, .int .i64 b.dot.2, .slice B b.past.length d, .bool b.dead, .string (strOf b.data)]] w _
  obtain ⟨rr, hrr⟩ : ∃ rr, rr = Sp.wins a b := ⟨_, rfl⟩
  rw [← hrr]
  have RR := Lib.hid hrr
  clear hrr
  go_enter Tryz.func182, Tryz.ntmps182
  go_upto_region 1 with fail
  obtain ⟨w0, hw0⟩ : ∃ w0, w0 = (w.alloc (.cells #[.int .i64 a.dot.1, .int .i64 a.dot.2, .slice A a.past.length c, .bool a.dead, .string (strOf a.data)] 71)).alloc (.cells #[.int .i64 b.dot.1, .int .i64 b.dot.2, .slice B b.past.length d, .bool b.dead, .string (strOf b.data)] 71) := ⟨_, rfl⟩
  have X0 := Lib.hid (show isBlk w0 w.heap.size 71 #[.int .i64 a.dot.1, .int .i64 a.dot.2, .slice A a.past.length c, .bool a.dead, .string (strOf a.data)] by rw [hw0]; exact (box_at w _ _).alloc _)
  have Y0 := Lib.hid (show isBlk w0 (w.heap.size + 1) 71 #[.int .i64 b.dot.1, .int .i64 b.dot.2, .slice B b.past.length d, .bool b.dead, .string (strOf b.data)] by
    rw [hw0]
    have := box_at (w.alloc (.cells #[.int .i64 a.dot.1, .int .i64 a.dot.2, .slice A a.past.length c, .bool a.dead, .string (strOf a.data)] 71)) #[.int .i64 b.dot.1, .int .i64 b.dot.2, .slice B b.past.length d, .bool b.dead, .string (strOf b.data)] 71
    rwa [World.size_alloc] at this)
  have E0 := Lib.hid (show Ext w w0 by rw [hw0]; exact Below.alloc (Ext.alloc _ _) (by simp) _)
  rw [← hw0]
  clear hw0
  have f0 := (X0.out.cell 0).trans rfl
  have f1 := (X0.out.cell 1).trans rfl
  have f3 := (X0.out.cell 3).trans rfl
  have k0 := (Y0.out.cell 0).trans rfl
  have k1 := (Y0.out.cell 1).trans rfl
  have k3 := (Y0.out.cell 3).trans rfl
  obtain ⟨p, hp⟩ : ∃ p, p = a.dead := ⟨_, rfl⟩
  obtain ⟨q, hq⟩ : ∃ q, q = b.dead := ⟨_, rfl⟩
  obtain ⟨x, hx⟩ : ∃ x, x = a.dot.2 := ⟨_, rfl⟩
  obtain ⟨y, hy⟩ : ∃ y, y = b.dot.2 := ⟨_, rfl⟩
  obtain ⟨x', hx'⟩ : ∃ x', x' = a.dot.1 := ⟨_, rfl⟩
  obtain ⟨y', hy'⟩ : ∃ y', y' = b.dot.1 := ⟨_, rfl⟩
  have WS := Lib.hid (show rr = if p = q then (decide (y < x) || (decide (x = y) && decide (y' < x'))) else q by rw [RR.out, hp, hq, hx, hy, hx', hy']; rfl)
  rw [← hp] at f3
  rw [← hq] at k3
  rw [← hx] at f1
  rw [← hy] at k1
  rw [← hx'] at f0
  rw [← hy'] at k0
  clear hp hq hx hy hx' hy' RR
  by_cases hpq : p = q
  · have t1 : (p == q) = true := by simpa using hpq
    by_cases hxy : x = y
    · have t2 : (x == y) = true := by simpa using hxy
      have W2 := Lib.hid (show rr = decide (y' < x') by
        rw [WS.out, if_pos hpq, hxy]
        simp)
      clear hpq hxy WS
      go_wp2
      go_ret
      exact ⟨ret_bool W2.out.symm, E0.out⟩
    · have t2 : (x == y) = false := by simpa using hxy
      have W2 := Lib.hid (show rr = decide (y < x) by
        rw [WS.out, if_pos hpq, decide_eq_false hxy, Bool.false_and, Bool.or_false])
      clear hpq hxy WS
      go_wp2
      go_ret
      exact ⟨ret_bool W2.out.symm, E0.out⟩
  · have t1 : (p == q) = false := by simpa using hpq
    have W2 := Lib.hid (show rr = q by rw [WS.out, if_neg hpq])
    clear hpq WS
    go_wp2
    go_ret
    exact ⟨ret_bool W2.out.symm, E0.out⟩
namespace Sp
theorem rbest_take (x : List Ver) (k : Nat) (h : k < x.length) (hn : ∀ j (hj : j < k), (x.any fun e => wins e (x[j]'(by omega))) = true) (hk : (x.any fun e => wins e x[k]) = false) : rbest x = some x[k] := by
  unfold rbest
  refine List.find?_eq_some_iff_append.2 ⟨by rw [hk]; rfl, x.take k, x.drop (k + 1), ?_, fun y hy => ?_⟩
  · conv => lhs; rw [← List.take_append_drop k x, List.drop_eq_getElem_cons h]
  · obtain ⟨j, hj, rfl⟩ := List.mem_iff_getElem.1 hy
    rw [List.length_take] at hj
    rw [List.getElem_take, hn j (by omega)]
    rfl
theorem rbest_none (x : List Ver) (hn : ∀ j (hj : j < x.length), (x.any fun e => wins e x[j]) = true) : rbest x = none := by
  unfold rbest
  rw [List.find?_eq_none]
  intro y hy
  obtain ⟨j, hj, rfl⟩ := List.mem_iff_getElem.1 hy
  rw [hn j hj]
  simp
end Sp
set_option maxRecDepth 100000 in
set_option maxHeartbeats 8000000 in
theorem rwinner_is (l : List Sp.Ver) (A : Option Addr) (cap : Nat) (w : World) (h : Vers w A l) (hl : l.length ≤ 1000) :
    Calls Tryz.prog 116 #[.slice A l.length cap] w fun e w' => ∃ A' c', e = .returned (.tuple #[.agg (verC A' c' ((Sp.winner l).getD Sp.verZ)), .bool (decide (Sp.live l ≠ []))]) ∧ Ext w w' := by
  have LC := Lib.hid fun W (e : Ext w W) => rlive_calls l A cap W (h.ext e) (by omega)
  have QL : (Sp.live l).length ≤ l.length := List.length_filter_le _ _
  have RW := Lib.hid (Sp.rbest_winner l)
  have NE := Lib.hid (show (Sp.winner l).isSome = decide (Sp.live l ≠ []) from Sp.winner_some)
  obtain ⟨wn, hwn⟩ : ∃ wn, wn = Sp.winner l := ⟨_, rfl⟩
  rw [← hwn] at RW NE ⊢
  obtain ⟨bb, hbb⟩ : ∃ bb, bb = decide (Sp.live l ≠ []) := ⟨_, rfl⟩
  rw [← hbb] at NE ⊢
  obtain ⟨q, hq⟩ : ∃ q, q = Sp.live l := ⟨_, rfl⟩
  rw [← hq] at LC QL RW
  clear hq h hwn hbb
  go_enter Tryz.func116, Tryz.ntmps116
  go_upto_region 1 with fail
  obtain ⟨w0, hw0⟩ : ∃ w0, w0 = w.alloc (.cells #[.int .i64 0, .int .i64 0, .slice none 0 0, .bool false, .string ⟨#[]⟩] 71) := ⟨_, rfl⟩
  have X0 := Lib.hid (show isBlk w0 w.heap.size 71 #[.int .i64 0, .int .i64 0, .slice none 0 0, .bool false, .string ⟨#[]⟩] by rw [hw0]; exact box_at w _ _)
  have E0 := Lib.hid (show Ext w w0 by rw [hw0]; exact Ext.alloc _ _)
  rw [← hw0]
  clear hw0
  go_wp2_with fail
  refine (LC.out w0 E0.out).mono ?_
  rintro e w2 ⟨v2, rfl, hO2, hb2⟩
  obtain ⟨A2, c2, rfl, hV2⟩ := hO2.read
  have V2 := Lib.hid hV2
  have X2 := Lib.hid (X0.out.below hb2)
  have E2 := Lib.hid (E0.out.trans hb2)
  clear hO2 hV2 hb2 X0 LC
  go_wp2
  go_loopw [5] (fun v5 wr => ∃ i : Nat, i ≤ q.length ∧ v5 = .int .i64 i ∧ (∀ j (hj : j < i) (hj' : j < q.length), (q.any fun e => Sp.wins e q[j]) = true) ∧ Ext w2 wr) (fun v5 _ => q.length - (intOf v5).toNat)
  case atStart => exact ⟨0, Nat.zero_le _, rfl, fun j hj => absurd hj (Nat.not_lt_zero _), Ext.refl _⟩
  case round =>
    obtain ⟨i, hi, rfl, hN, hb⟩ := hrel
    have HN := Lib.hid hN
    have HB := Lib.hid hb
    clear hN hb
    by_cases hlt : i < q.length
    · obtain ⟨eb, eo, rfl, hc⟩ := V2.out.at (by omega)
      obtain ⟨A3, c3, ⟨c0, c1, c2x, c3x, c4⟩, pst⟩ := hc i hlt
      have I0 := Lib.hid c0
      have I1 := Lib.hid c1
      have I2 := Lib.hid c2x
      have I3 := Lib.hid c3x
      have I4 := Lib.hid c4
      have HC := Lib.hid hc
      have WI := Lib.hid (show ∀ k, (hk : k < q.length) → ((q.take (k + 1)).any fun e => Sp.wins e q[i]) = (((q.take k).any fun e => Sp.wins e q[i]) || Sp.wins q[k] q[i]) from fun k hk => by
        rw [List.take_succ_eq_append_getElem hk, List.any_append]
        simp)
      have FI := Lib.hid (show (q.any fun e => Sp.wins e q[i]) = false → wn = some q[i] from fun h => by
        rw [← RW.out]
        exact Sp.rbest_take q i hlt (fun j hj => HN.out j hj (by omega)) h)
      have NI := Lib.hid (show (q.any fun e => Sp.wins e q[i]) = true → ∀ j (hj : j < i + 1) (hj' : j < q.length), (q.any fun e => Sp.wins e q[j]) = true from fun h j hj hj' => by
        rcases Nat.lt_or_ge j i with h1 | h1
        · exact HN.out j h1 hj'
        · have : j = i := by omega
          subst this
          exact h)
      obtain ⟨xi, hxi⟩ : ∃ xi, xi = q[i] := ⟨_, rfl⟩
      rw [← hxi] at I0 I1 I2 I3 I4 WI FI NI
      have ib : (i : Int) < (q.length : Int) := by omega
      clear hc c0 c1 c2x c3x c4 pst hxi
      go_wp2
      go_loopw [6, 7] (fun v6 v7 wr2 => ∃ k : Nat, k ≤ q.length ∧ v7 = .int .i64 k ∧ v6 = .bool ((q.take k).any fun e => Sp.wins e xi) ∧ Ext w2 wr2) (fun _ v7 _ => q.length - (intOf v7).toNat)
      case atStart => exact ⟨0, Nat.zero_le _, rfl, rfl, HB.out⟩
      case round =>
        obtain ⟨k, hk, rfl, rfl, hb2⟩ := hrel
        have HB2 := Lib.hid hb2
        clear hb2
        by_cases hlt2 : k < q.length
        · obtain ⟨A6, c6, ⟨d0, d1, d2, d3, d4⟩, _⟩ := HC.out k hlt2
          have WK := Lib.hid (WI.out k hlt2)
          obtain ⟨xk, hxk⟩ : ∃ xk, xk = q[k] := ⟨_, rfl⟩
          rw [← hxk] at d0 d1 d2 d3 d4 WK
          have J0 := Lib.hid d0
          have J1 := Lib.hid d1
          have J2 := Lib.hid d2
          have J3 := Lib.hid d3
          have J4 := Lib.hid d4
          obtain ⟨b, hbq⟩ : ∃ b, b = (q.take k).any fun e => Sp.wins e xi := ⟨_, rfl⟩
          rw [← hbq] at WK ⊢
          have kb : (k : Int) < (q.length : Int) := by omega
          have WC := Lib.hid fun W => rwins_is xk xi A6 A3 c6 c3 W
          obtain ⟨u, hu⟩ : ∃ u, u = Sp.wins xk xi := ⟨_, rfl⟩
          rw [← hu] at WC WK
          clear d0 d1 d2 d3 d4 hxk hbq hu
          cases b with
          | true =>
            have A2 := Lib.hid (show ((q.take (k + 1)).any fun e => Sp.wins e xi) = true by rw [WK.out]; rfl)
            clear WK
            go_wp2_with fail
            refine wp_region_det (fun W => Ext wr W) (by kernel_rfl) (by kernel_rfl) (Below.refl _ _).drew ?_
            repeat (first
              | (refine det_step (fun K hK => ?_)
                 apply Exists.intro
                 refine ⟨Or.inl ⟨rfl, fun W hS => ?_⟩, ?_⟩
                 · replace hS : Ext wr W := hS
                   skip
                   go_simp
                   first
                   | exact rfl
                   | exact ⟨rfl, hS⟩
                   | (fail)
                 go_simp
                 refine hK _ ?_
                 clear hK K)
              | (refine det_step (fun K hK => ?_); refine det_no' rfl ?_; go_simp; refine hK _ ?_; clear hK K))
            refine det_nil ?_
            intro W9 hS
            replace hS : Ext _ W9 := hS
            go_wp2
            go_roundw
            case rel => exact ⟨k + 1, by omega, by go_num, by rw [A2.out], HB2.out.trans hS⟩
            case measure => simp [intOf]; omega
          | false =>
            have A2 := Lib.hid (show ((q.take (k + 1)).any fun e => Sp.wins e xi) = u by rw [WK.out]; simp)
            clear WK
            go_wp2_with fail
            refine wp_region_det (fun W => Ext wr W) (by kernel_rfl) (by kernel_rfl) (Below.refl _ _).drew ?_
            repeat (first
              | (refine det_step (fun K hK => ?_)
                 apply Exists.intro
                 refine ⟨Or.inl ⟨rfl, fun W hS => ?_⟩, ?_⟩
                 · replace hS : Ext wr W := hS
                   have z := HB2.out.trans hS; have f0 := z.cell I0.out; have f1 := z.cell I1.out; have f2 := z.cell I2.out; have f3 := z.cell I3.out; have f4 := z.cell I4.out; have g0 := z.cell J0.out; have g1 := z.cell J1.out; have g2 := z.cell J2.out; have g3 := z.cell J3.out; have g4 := z.cell J4.out
                   go_simp
                   first
                   | exact rfl
                   | exact ⟨rfl, hS⟩
                   | (refine (WC.out W).mono ?_; rintro e w9 ⟨rfl, hb9⟩; exact ⟨rfl, hS.trans hb9⟩)
                 go_simp
                 refine hK _ ?_
                 clear hK K)
              | (refine det_step (fun K hK => ?_); refine det_no' rfl ?_; go_simp; refine hK _ ?_; clear hK K))
            refine det_nil ?_
            intro W9 hS
            replace hS : Ext _ W9 := hS
            go_wp2
            go_roundw
            case rel => exact ⟨k + 1, by omega, by go_num, by rw [A2.out], HB2.out.trans hS⟩
            case measure => simp [intOf]; omega
        · obtain rfl : k = q.length := by omega
          rw [List.take_length]
          obtain ⟨b, hbq⟩ : ∃ b, b = q.any fun e => Sp.wins e xi := ⟨_, rfl⟩
          rw [← hbq] at FI NI ⊢
          clear hbq
          cases b with
          | true =>
            go_wp2
            go_roundw
            case rel => exact ⟨i + 1, by omega, by go_num, NI.out rfl, HB2.out⟩
            case measure => simp [intOf]; omega
          | false =>
            have FN := Lib.hid (FI.out rfl)
            have BT := Lib.hid (show bb = true by rw [← NE.out, FN.out]; rfl)
            have f0 := HB2.out.cell I0.out
            have f1 := HB2.out.cell I1.out
            have f2 := HB2.out.cell I2.out
            have f3 := HB2.out.cell I3.out
            have f4 := HB2.out.cell I4.out
            have Z2 := Lib.hid (X2.out.below HB2.out)
            have g0 := Z2.out.frozen 0
            have g1 := Z2.out.frozen 1
            have g2 := Z2.out.frozen 2
            have g3 := Z2.out.frozen 3
            have g4 := Z2.out.frozen 4
            have e0 := (Z2.out.cell 0).trans rfl
            have e1 := (Z2.out.cell 1).trans rfl
            have e2 := (Z2.out.cell 2).trans rfl
            have e3 := (Z2.out.cell 3).trans rfl
            have e4 := (Z2.out.cell 4).trans rfl
            have EW := Lib.hid (E2.out.trans HB2.out)
            clear FI NI
            go_wp2
            refine bodyPost_ret (results_cell_pair rfl _ _ w.heap.size 71 (verL A3 c3 xi) _ rfl (((((Z2.out.put 0 _ rfl).put 1 _ rfl).put 2 _ rfl).put 3 _ rfl).put 4 _ rfl) Tryz.underlying71 rfl (by kernel_rfl)) rfl ?_
            rw [FN.out, BT.out]
            exact ⟨A3, c3, rfl, ((((EW.out.setCell (p := ⟨w.heap.size, 0, none⟩) (by simp) _).setCell (p := ⟨w.heap.size, 1, none⟩) (by simp) _).setCell (p := ⟨w.heap.size, 2, none⟩) (by simp) _).setCell (p := ⟨w.heap.size, 3, none⟩) (by simp) _).setCell (p := ⟨w.heap.size, 4, none⟩) (by simp) _⟩
    · obtain rfl : i = q.length := by omega
      have FN := Lib.hid (show wn = none by rw [← RW.out]; exact Sp.rbest_none q fun j hj => HN.out j hj hj)
      have BT := Lib.hid (show bb = false by rw [← NE.out, FN.out]; rfl)
      have Z2 := Lib.hid (X2.out.below HB.out)
      have g0 := Z2.out.frozen 0
      have g1 := Z2.out.frozen 1
      have g2 := Z2.out.frozen 2
      have g3 := Z2.out.frozen 3
      have g4 := Z2.out.frozen 4
      have e0 := (Z2.out.cell 0).trans rfl
      have e1 := (Z2.out.cell 1).trans rfl
      have e2 := (Z2.out.cell 2).trans rfl
      have e3 := (Z2.out.cell 3).trans rfl
      have e4 := (Z2.out.cell 4).trans rfl
      have EW := Lib.hid (E2.out.trans HB.out)
      clear HN RW
      go_wp2
      refine bodyPost_ret (results_cell_pair rfl _ _ w.heap.size 71 (verL none 0 Sp.verZ) _ rfl (((((Z2.out.put 0 _ rfl).put 1 _ rfl).put 2 _ rfl).put 3 _ rfl).put 4 _ rfl) Tryz.underlying71 rfl (by kernel_rfl)) rfl ?_
      rw [FN.out, BT.out]
      exact ⟨none, 0, rfl, ((((EW.out.setCell (p := ⟨w.heap.size, 0, none⟩) (by simp) _).setCell (p := ⟨w.heap.size, 1, none⟩) (by simp) _).setCell (p := ⟨w.heap.size, 2, none⟩) (by simp) _).setCell (p := ⟨w.heap.size, 3, none⟩) (by simp) _).setCell (p := ⟨w.heap.size, 4, none⟩) (by simp) _⟩
end Go.Proofs.YtmlfnidckfeebaaGreatDoor
namespace Go.Proofs.YtmlfnidckfeebaaGreatDoor
open Go.RowKit Go.Shelf
attribute [local go_sem] yUpon strOf_toList
theorem appRC : AppStat Tryz.prog 78 94 4 56 := by
  refine ⟨Tryz.underlying78, by decide, by decide, ?_⟩
  obtain ⟨i0, hi, hz0, hz1, hz2⟩ := info_parts (show (Tryz.prog.info? 94).map (fun i => (i.zero, i.size, i.bytes)) = some (some (.agg #[.string ⟨#[]⟩, .int .i64 0, .string ⟨#[]⟩, .string ⟨#[]⟩]), 4, 56) by kernel_rfl)
  exact ⟨i0, _, hi, hz0, hz1, hz2, by kernel_rfl⟩
set_option maxRecDepth 100000 in
set_option maxHeartbeats 16000000 in
theorem rbetween_calls (oa ob : Option Sp.T) (ma mb : List Sp.DE) (PA : Sp.Both oa ma) (PB : Sp.Both ob mb) (A B : Option Addr) (cap cap' : Nat) (w : World) (hA : EntsAt w A ma) (hB : EntsAt w B mb) (K : KeysAt w 0) :
    Calls Tryz.prog 53 #[.slice A ma.length cap, .slice B mb.length cap'] w fun e w' => ∃ v, e = .returned v ∧ w'.ownsRow w.heap.size 94 4 v (Sp.betweenS (oa.getD .nil) (ob.getD .nil)).length (chgsC (Sp.betweenS (oa.getD .nil) (ob.getD .nil))) ∧ Ext w w' := by
  have HA := Lib.hid hA
  have HB := Lib.hid hB
  have la := PA.gm.2
  have lb := PB.gm.2
  have RD := Lib.hid (rdiffer_calls oa ob ma mb PA PB A B cap cap' w hA hB K)
  have GA := Lib.hid fun d W (e : Ext w W) => rget_calls ma A cap d W (HA.out.ext e) (by omega)
  have GB := Lib.hid fun d W (e : Ext w W) => rget_calls mb B cap' d W (HB.out.ext e) (by omega)
  have LA := Lib.hid fun p => Sp.rget_short PA p
  have LB := Lib.hid fun p => Sp.rget_short PB p
  have DL : (Sp.differT (oa.getD .nil) (ob.getD .nil)).length ≤ 1121154893057 := by
    have OL := Sp.openS_len oa ob (ma ++ mb) (by rw [List.length_append]; omega) 5 []
    have p5' : (257 : Nat) ^ 5 = 1121154893057 := by decide
    rw [p5', Sp.opened_both PA PB] at OL
    exact Nat.le_trans (List.length_filter_le _ _) OL
  have DE := Sp.differ_all PA PB
  rw [DE, show (Sp.openedT (oa.getD .nil) (ob.getD .nil)).filter (Sp.leafdiff (oa.getD .nil) (ob.getD .nil)) = Sp.differT (oa.getD .nil) (ob.getD .nil) from rfl] at RD
  have BB := Lib.hid (Sp.between_both PA PB)
  obtain ⟨R, hR⟩ : ∃ R, R = Sp.betweenS (oa.getD .nil) (ob.getD .nil) := ⟨_, rfl⟩
  rw [← hR] at BB ⊢
  obtain ⟨D, hD⟩ : ∃ D, D = Sp.differT (oa.getD .nil) (ob.getD .nil) := ⟨_, rfl⟩
  rw [← hD] at RD DL BB
  have BT := Lib.hid fun k h => Sp.between_take D (Sp.rget ma) (Sp.rget mb) k h
  have BN := Lib.hid (show ∀ k, k ≤ D.length → (Sp.betweenL (D.take k) (Sp.rget ma) (Sp.rget mb)).length ≤ k from fun k h => Nat.le_trans (Sp.between_len _ _ _) (by rw [List.length_take]; omega))
  clear PA PB hA hB K hR hD DE
  go_enter Tryz.func53, Tryz.ntmps53
  go_wp2_with fail
  refine RD.out.mono ?_
  rintro e w1 ⟨v1, rfl, hO1, hb1⟩
  obtain ⟨A1, c1, rfl, hc1⟩ := own_read hO1
  have N1 := Lib.hid (show Nams w1 A1 D from hc1)
  have E1 := Lib.hid hb1
  clear hO1 hc1 hb1 RD
  go_wp2
  go_loopw [5, 7] (fun v5 v7 wr => ∃ k : Nat, k ≤ D.length ∧ v7 = .int .i64 k ∧ wr.ownsRow w1.heap.size 94 4 v5 (Sp.betweenL (D.take k) (Sp.rget ma) (Sp.rget mb)).length (chgsC (Sp.betweenL (D.take k) (Sp.rget ma) (Sp.rget mb))) ∧ Ext w1 wr) (fun _ v7 _ => D.length - (intOf v7).toNat)
  case atStart => exact ⟨0, Nat.zero_le _, rfl, World.ownsRow_nil _ _ _ _, Ext.refl _⟩
  case round =>
    obtain ⟨k, hk, rfl, hO, hb⟩ := hrel
    have HX := Lib.hid hb
    have HO := Lib.hid hO
    clear hO hb
    by_cases hlt : k < D.length
    · obtain ⟨g, o, rfl, hat⟩ := N1.out.at (by omega)
      have C0 := Lib.hid (hat k hlt)
      have ST := Lib.hid (BT.out k hlt)
      have nl := BN.out k hk
      obtain ⟨x, hx⟩ : ∃ x, x = D[k] := ⟨_, rfl⟩
      rw [← hx] at C0 ST
      have GX := Lib.hid (GA.out x)
      have GY := Lib.hid (GB.out x)
      have lx := LA.out x
      have ly := LB.out x
      obtain ⟨gx, hgx⟩ : ∃ gx, gx = Sp.rget ma x := ⟨_, rfl⟩
      obtain ⟨gy, hgy⟩ : ∃ gy, gy = Sp.rget mb x := ⟨_, rfl⟩
      rw [← hgx] at GX ST lx
      rw [← hgy] at GY ST ly
      obtain ⟨q, hq⟩ : ∃ q, q = Sp.betweenL (D.take k) (Sp.rget ma) (Sp.rget mb) := ⟨_, rfl⟩
      rw [← hq] at HO ST nl
      have kb : (k : Int) < (D.length : Int) := by omega
      have EX := Lib.hid (E1.out.trans HX.out)
      clear hat hx hgx hgy hq
      go_wp2_with fail
      refine wp_region_planT (fun W => Ext wr W) 13 [(true, 0), (true, 1), (true, 2), (true, 3), (true, 4), (true, 6), (true, 7), (true, 8), (true, 9), (true, 10), (false, 5), (false, 11), (false, 12)] (by kernel_rfl) (by kernel_rfl) (Ext.refl wr).drew ?_
      repeat (refine plan_float rfl (fun K hK => ?_)
              first
              | (apply Exists.intro
                 refine ⟨Or.inl ⟨rfl, fun W hS => ?_⟩, ?_⟩
                 · have hz : Ext wr W := hS; have f0 := (HX.out.trans hz).cell C0.out
                   go_simp
                   first | done | exact rfl
                 go_simp
                 refine hK _ ?_
                 clear hK K)
              | (refine floatT_no' rfl ?_; go_simp; refine hK _ ?_; clear hK K))
      refine plan_only rfl (fun Q' hQ' => ?_)
      go_wp2_with fail
      refine (GX.out _ (EX.out.trans (Ext.refl wr).drew)).mono ?_
      rintro e w6 ⟨Aa, ca, rfl, hva, rfl⟩
      have VA := Lib.hid hva
      clear hva
      go_wp2
      refine hQ' _ _ (Ext.refl wr).drew ?_
      clear hQ'
      refine plan_only rfl (fun Q' hQ' => ?_)
      go_wp2_with fail
      refine (GY.out _ (EX.out.trans (Ext.refl wr).drew)).mono ?_
      rintro e w6 ⟨Ab, cb, rfl, hvb, rfl⟩
      have VB := Lib.hid hvb
      clear hvb
      go_wp2
      refine hQ' _ _ (Ext.refl wr).drew ?_
      clear hQ'
      refine plan_only rfl (fun Q' hQ' => ?_)
      go_wp2
      refine hQ' _ _ (Ext.refl wr).drew ?_
      clear hQ'
      refine plan_nil ?_
      go_wp2_with fail
      refine ⟨rfl, ?_⟩
      have WX := Lib.hid (rwinner_is gx Aa ca wr.drew VA.out lx)
      have WY := Lib.hid fun W (e : Ext wr.drew W) => rwinner_is gy Ab cb W (VB.out.ext e) ly
      have LX := Lib.hid fun W (e : Ext wr.drew W) => rlive_calls gx Aa ca W (VA.out.ext e) (by omega)
      have LY := Lib.hid fun W (e : Ext wr.drew W) => rlive_calls gy Ab cb W (VB.out.ext e) (by omega)
      have DX := show Sp.live gx = [] → Sp.data0 gx = [] from fun h => by unfold Sp.data0 Sp.winner; rw [h]; rfl
      have DY := show Sp.live gy = [] → Sp.data0 gy = [] from fun h => by unfold Sp.data0 Sp.winner; rw [h]; rfl
      have KD : Sp.kindS gx gy = if Sp.live gx = [] ∧ Sp.live gy ≠ [] then 1 else if Sp.live gx ≠ [] ∧ Sp.live gy = [] then 2 else if Sp.data0 gx ≠ Sp.data0 gy then 3 else if (Sp.live gx).length ≠ (Sp.live gy).length then 4 else 0 := rfl
      rw [data0_win gx] at KD ST DX
      rw [data0_win gy] at KD ST DY
      have nX : (Sp.live gx).length ≤ 1000 := Nat.le_trans (List.length_filter_le _ _) lx
      have nY : (Sp.live gy).length ≤ 1000 := Nat.le_trans (List.length_filter_le _ _) ly
      obtain ⟨vx, hvx⟩ : ∃ vx, vx = (Sp.winner gx).getD Sp.verZ := ⟨_, rfl⟩
      obtain ⟨vy, hvy⟩ : ∃ vy, vy = (Sp.winner gy).getD Sp.verZ := ⟨_, rfl⟩
      rw [← hvx] at KD ST DX WX
      rw [← hvy] at KD ST DY WY
      obtain ⟨kk, hkk⟩ : ∃ kk, kk = Sp.kindS gx gy := ⟨_, rfl⟩
      rw [← hkk] at KD ST
      obtain ⟨qx, hqx⟩ : ∃ qx, qx = Sp.live gx := ⟨_, rfl⟩
      obtain ⟨qy, hqy⟩ : ∃ qy, qy = Sp.live gy := ⟨_, rfl⟩
      rw [← hqx] at KD DX WX LX nX
      rw [← hqy] at KD DY WY LY nY
      obtain ⟨bx, hbx⟩ : ∃ bx, bx = decide (qx ≠ []) := ⟨_, rfl⟩
      obtain ⟨by', hby⟩ : ∃ by', by' = decide (qy ≠ []) := ⟨_, rfl⟩
      rw [← hbx] at WX
      rw [← hby] at WY
      obtain ⟨dx, hdx⟩ : ∃ dx, dx = vx.data := ⟨_, rfl⟩
      obtain ⟨dy, hdy⟩ : ∃ dy, dy = vy.data := ⟨_, rfl⟩
      have KK := Lib.hid (show (bx = false → dx = [] ∧ qx.length = 0) ∧ (by' = false → dy = [] ∧ qy.length = 0) ∧ kk = if bx = false ∧ by' = true then 1 else if bx = true ∧ by' = false then 2 else if dx ≠ dy then 3 else if qx.length ≠ qy.length then 4 else 0 by
        refine ⟨fun h => ?_, fun h => ?_, ?_⟩
        · have h0 : qx = [] := by rw [hbx] at h; simpa using h
          exact ⟨by rw [hdx, DX h0], by rw [h0]; rfl⟩
        · have h0 : qy = [] := by rw [hby] at h; simpa using h
          exact ⟨by rw [hdy, DY h0], by rw [h0]; rfl⟩
        · rw [KD, hbx, hby, hdx, hdy]
          by_cases h1 : qx = [] <;> by_cases h2 : qy = [] <;> simp [h1, h2])
      rw [← hdx, ← hdy] at ST
      have HDX := Lib.hid hdx
      have HDY := Lib.hid hdy
      have tokF : True := trivial
      have tokG : True := trivial
      clear DX DY KD hvx hvy hkk hqx hqy hbx hby hdx hdy VA VB GX GY
      obtain ⟨wp, hwp⟩ : ∃ wp, wp = wr.drew := ⟨_, rfl⟩
      rw [← hwp] at WX WY LX LY ⊢
      have EP := Lib.hid (show Ext wr wp by rw [hwp]; exact (Ext.refl wr).drew)
      clear hwp
      go_wp2_with fail
      refine WX.out.mono ?_
      rintro e w2 ⟨A2, c2, rfl, hb2⟩
      have E2 := Lib.hid hb2
      clear hb2 WX
      go_upto_region 8 with (have _t := tokF; ((with_reducible refine at_alloc (t := 71) rfl ?_); refine box_new rfl (cs := #[.int .i64 0, .int .i64 0, .slice none 0 0, .bool false, .string ⟨#[]⟩]) (t := 71) (by first | (go_simp; done) | (go_simp; rfl)) ?_; intro g3 w3 hg3 hx3 hb3; have H3 := Lib.hid hx3; have B3 := Lib.hid (show Ext w2 w3 from hb3); have GG3 := Lib.hid hg3; have k0 := hx3.frozen 0; have k1 := hx3.frozen 1; have k2 := hx3.frozen 2; have k3 := hx3.frozen 3; have k4 := hx3.frozen 4; have e0 := (hx3.cell 0).trans rfl; have e1 := (hx3.cell 1).trans rfl; have e2 := (hx3.cell 2).trans rfl; have e3 := (hx3.cell 3).trans rfl; have e4 := (hx3.cell 4).trans rfl; clear tokF _t hx3 hb3 hg3))
      obtain ⟨w4, hw⟩ : ∃ ww, ww = ((((w3.setCell ⟨g3, 0, none⟩ (.int .i64 vx.dot.1)).setCell ⟨g3, 1, none⟩ (.int .i64 vx.dot.2)).setCell ⟨g3, 2, none⟩ (.slice A2 vx.past.length c2)).setCell ⟨g3, 3, none⟩ (.bool vx.dead)).setCell ⟨g3, 4, none⟩ (.string (strOf vx.data)) := ⟨_, rfl⟩
      have XA := Lib.hid (show isBlk w4 g3 71 #[.int .i64 vx.dot.1, .int .i64 vx.dot.2, .slice A2 vx.past.length c2, .bool vx.dead, .string (strOf vx.data)] by rw [hw]; exact ((((H3.out.put 0 _ rfl).put 1 _ rfl).put 2 _ rfl).put 3 _ rfl).put 4 _ rfl)
      have FA := Lib.hid (show Ext w2 w4 by rw [hw]; exact ((((B3.out.setCell GG3.out _).setCell GG3.out _).setCell GG3.out _).setCell GG3.out _).setCell GG3.out _)
      rw [← hw]
      clear hw k0 k1 k2 k3 k4 e0 e1 e2 e3 e4
      have E4 := Lib.hid (E2.out.trans FA.out)
      go_wp2_with fail
      refine (WY.out w4 E4.out).mono ?_
      rintro e w5 ⟨A5, c5, rfl, hb5⟩
      have E5 := Lib.hid (E4.out.trans hb5)
      have XA5 := Lib.hid (XA.out.below hb5)
      clear hb5 WY XA
      go_upto_region 9 with (have _t := tokG; ((with_reducible refine at_alloc (t := 71) rfl ?_); refine box_new rfl (cs := #[.int .i64 0, .int .i64 0, .slice none 0 0, .bool false, .string ⟨#[]⟩]) (t := 71) (by first | (go_simp; done) | (go_simp; rfl)) ?_; intro g6 w6 hg6 hx6 hb6; have H6 := Lib.hid hx6; have B6 := Lib.hid (show Ext w5 w6 from hb6); have GG6 := Lib.hid hg6; have k0 := hx6.frozen 0; have k1 := hx6.frozen 1; have k2 := hx6.frozen 2; have k3 := hx6.frozen 3; have k4 := hx6.frozen 4; have e0 := (hx6.cell 0).trans rfl; have e1 := (hx6.cell 1).trans rfl; have e2 := (hx6.cell 2).trans rfl; have e3 := (hx6.cell 3).trans rfl; have e4 := (hx6.cell 4).trans rfl; clear tokG _t hx6 hb6 hg6))
      obtain ⟨w7, hw⟩ : ∃ ww, ww = ((((w6.setCell ⟨g6, 0, none⟩ (.int .i64 vy.dot.1)).setCell ⟨g6, 1, none⟩ (.int .i64 vy.dot.2)).setCell ⟨g6, 2, none⟩ (.slice A5 vy.past.length c5)).setCell ⟨g6, 3, none⟩ (.bool vy.dead)).setCell ⟨g6, 4, none⟩ (.string (strOf vy.data)) := ⟨_, rfl⟩
      have XB := Lib.hid (show isBlk w7 g6 71 #[.int .i64 vy.dot.1, .int .i64 vy.dot.2, .slice A5 vy.past.length c5, .bool vy.dead, .string (strOf vy.data)] by rw [hw]; exact ((((H6.out.put 0 _ rfl).put 1 _ rfl).put 2 _ rfl).put 3 _ rfl).put 4 _ rfl)
      have FB := Lib.hid (show Ext w5 w7 by rw [hw]; exact ((((B6.out.setCell GG6.out _).setCell GG6.out _).setCell GG6.out _).setCell GG6.out _).setCell GG6.out _)
      rw [← hw]
      clear hw k0 k1 k2 k3 k4 e0 e1 e2 e3 e4
      have E7 := Lib.hid (E5.out.trans FB.out)
      have XA7 := Lib.hid (XA5.out.below FB.out)
      have D7 := Lib.hid (EP.out.trans E7.out)
      go_wp2_with fail
      refine wp_region_planT (fun W => Ext w7 W) 10 [(true, 0), (true, 1), (true, 2), (true, 3), (true, 4), (true, 5), (true, 6), (true, 7), (true, 8), (false, 9)] (by kernel_rfl) (by kernel_rfl) (Ext.refl w7).drew ?_
      repeat (refine plan_float rfl (fun K hK => ?_)
              first
              | (apply Exists.intro
                 refine ⟨Or.inl ⟨rfl, fun W hS => ?_⟩, ?_⟩
                 · have hz : Ext w7 W := hS; have f0 := ((HX.out.trans D7.out).trans hz).cell C0.out; have f1 := ((XA7.out.below hz).cell 4).trans rfl; have f2 := ((XB.out.below hz).cell 4).trans rfl
                   go_simp
                   first | done | exact rfl
                 go_simp
                 refine hK _ ?_
                 clear hK K)
              | (refine floatT_no' rfl ?_; go_simp; refine hK _ ?_; clear hK K))
      have tokC : True := trivial
      refine plan_only rfl (fun Q' hQ' => ?_)
      go_wp2_with (have _t := tokC; ((with_reducible refine at_alloc (t := 94) rfl ?_); refine box_new rfl (cs := #[.string ⟨#[]⟩, .int .i64 0, .string ⟨#[]⟩, .string ⟨#[]⟩]) (t := 94) (by first | (go_simp; done) | (go_simp; rfl)) ?_; intro g8 w8 hg8 hx8 hb8; have H8 := Lib.hid hx8; have B8 := Lib.hid (show Ext w7.drew w8 from hb8); have GG8 := Lib.hid hg8; clear tokC _t hx8 hb8 hg8))
      have E78 := Lib.hid (show Ext w7 w8 from ((Ext.refl w7).drew).trans B8.out)
      refine hQ' _ _ E78.out ?_
      clear hQ'
      refine plan_nil ?_
      simp only [List.drop_succ_cons, List.drop_zero]
      have k0 := H8.out.frozen 0
      have k1 := H8.out.frozen 1
      have k2 := H8.out.frozen 2
      have k3 := H8.out.frozen 3
      have e0 := (H8.out.cell 0).trans rfl
      have e1 := (H8.out.cell 1).trans rfl
      have e2 := (H8.out.cell 2).trans rfl
      have e3 := (H8.out.cell 3).trans rfl
      go_wp2_with fail
      refine ⟨rfl, ?_⟩
      obtain ⟨w9, hw9⟩ : ∃ w9, w9 = (((w8.setCell ⟨g8, 0, none⟩ (.string (strOf x))).setCell ⟨g8, 1, none⟩ (.int .i64 0)).setCell ⟨g8, 2, none⟩ (.string (strOf vx.data))).setCell ⟨g8, 3, none⟩ (.string (strOf vy.data)) := ⟨_, rfl⟩
      have X9 := Lib.hid (show isBlk w9 g8 94 #[.string (strOf x), .int .i64 0, .string (strOf vx.data), .string (strOf vy.data)] by rw [hw9]; exact (((H8.out.put 0 _ rfl).put 1 _ rfl).put 2 _ rfl).put 3 _ rfl)
      have E79 := Lib.hid (show Ext w7.drew w9 by rw [hw9]; exact (((B8.out.setCell GG8.out _).setCell GG8.out _).setCell GG8.out _).setCell GG8.out _)
      rw [← hw9]
      clear hw9 k0 k1 k2 k3 e0 e1 e2 e3
      have D9 := Lib.hid (D7.out.trans (((Ext.refl w7).drew).trans E79.out))
      have XA9 := Lib.hid (XA7.out.below (((Ext.refl w7).drew).trans E79.out))
      have XB9 := Lib.hid (XB.out.below (((Ext.refl w7).drew).trans E79.out))
      have EP9 := Lib.hid (E7.out.trans (((Ext.refl w7).drew).trans E79.out))
      have O9 := Lib.hid (own_ext HO.out D9.out)
      have G9 := Lib.hid (show wr.heap.size ≤ g8 by have h1 := D7.out.size; have h2 : w7.drew.heap.size ≤ g8 := GG8.out; have h3 : w7.drew.heap.size = w7.heap.size := rfl; omega)
      have EW := Lib.hid (HX.out.trans D9.out)
      have x0 := (X9.out.cell 0).trans rfl
      have x1 := (X9.out.cell 1).trans rfl
      have x2 := (X9.out.cell 2).trans rfl
      have x3 := (X9.out.cell 3).trans rfl
      have z1 := X9.out.frozen 1
      have a4 := (XA9.out.cell 4).trans rfl
      have b4 := (XB9.out.cell 4).trans rfl
      cases bx with
      | false =>
        cases by' with
        | false =>
          obtain ⟨d1, n1⟩ := KK.out.1 rfl
          obtain ⟨d2, n2⟩ := KK.out.2.1 rfl
          have ST2 := Lib.hid (show Sp.betweenL (D.take (k + 1)) (Sp.rget ma) (Sp.rget mb) = q by
            have : kk = 0 := by rw [KK.out.2.2, d1, d2, n1, n2]; rfl
            rw [ST.out, if_pos this, List.append_nil])
          clear KK ST d1 n1 d2 n2
          go_wp2
          go_roundw
          case rel => exact ⟨k + 1, by omega, by go_num, by rw [ST2.out]; exact O9.out, EW.out⟩
          case measure => simp [intOf]; omega
        | true =>
          have ST2 := Lib.hid (show Sp.betweenL (D.take (k + 1)) (Sp.rget ma) (Sp.rget mb) = q ++ [⟨x, 1, vx.data, vy.data⟩] by
            have hk1 : kk = 1 := by rw [KK.out.2.2]; rfl
            rw [ST.out, hk1, if_neg (by decide), HDX.out, HDY.out])
          have OK := Lib.hid (own_far O9.out (fun e => by have h1 := (HO.out.lt g8 e).2; have h2 := G9.out; omega) (.int .i64 1) : (w9.setCell ⟨g8, 1, none⟩ (.int .i64 1)).ownsRow w1.heap.size 94 4 u5 q.length (chgsC q))
          have EK := Lib.hid (show Ext w1 (w9.setCell ⟨g8, 1, none⟩ (.int .i64 1)) from EW.out.setCell (p := ⟨g8, 1, none⟩) (by show w1.heap.size ≤ g8; have h1 := HX.out.size; have h2 := G9.out; omega) _)
          have tokA : True := trivial
          have tokS : True := trivial
          clear ST KK
          go_wp2_with (first
            | (have _t := tokS; (with_reducible refine at_bslice rfl ?_); refine bslice_one rfl 78 94 _ rfl appRC (by decide) (chgC ⟨x, 1, vx.data, vy.data⟩) rfl rfl ?_; clear tokS _t)
            | (have _t := tokA; at_builtin; refine app_new appRC rfl _ _ rfl w1.heap.size _ q.length _ rfl OK.out (chgC ⟨x, 1, vx.data, vy.data⟩) 94 1 rfl rfl (chg_one ⟨x, 1, vx.data, vy.data⟩) (by decide) (by omega) EK.out.size ?_; intro gz capz wz hownz hgrz hbz hbgz; have OZ := Lib.hid hownz; have BZ := Lib.hid (show Ext w1 wz from Below.trans EK.out hbz); clear tokA _t hownz hgrz hbz hbgz))
          go_roundw
          case rel =>
            refine ⟨k + 1, by omega, by go_num, ?_, BZ.out⟩
            rw [ST2.out, List.length_append, chgsC_append, show chgsC [(⟨x, 1, vx.data, vy.data⟩ : Sp.Chg)] = (chgC ⟨x, 1, vx.data, vy.data⟩).toList from List.append_nil _]
            exact OZ.out
          case measure => simp [intOf]; omega
      | true =>
        cases by' with
        | false =>
          have ST2 := Lib.hid (show Sp.betweenL (D.take (k + 1)) (Sp.rget ma) (Sp.rget mb) = q ++ [⟨x, 2, vx.data, vy.data⟩] by
            have hk1 : kk = 2 := by rw [KK.out.2.2]; rfl
            rw [ST.out, hk1, if_neg (by decide), HDX.out, HDY.out])
          have OK := Lib.hid (own_far O9.out (fun e => by have h1 := (HO.out.lt g8 e).2; have h2 := G9.out; omega) (.int .i64 2) : (w9.setCell ⟨g8, 1, none⟩ (.int .i64 2)).ownsRow w1.heap.size 94 4 u5 q.length (chgsC q))
          have EK := Lib.hid (show Ext w1 (w9.setCell ⟨g8, 1, none⟩ (.int .i64 2)) from EW.out.setCell (p := ⟨g8, 1, none⟩) (by show w1.heap.size ≤ g8; have h1 := HX.out.size; have h2 := G9.out; omega) _)
          have tokA : True := trivial
          have tokS : True := trivial
          clear ST KK
          go_wp2_with (first
            | (have _t := tokS; (with_reducible refine at_bslice rfl ?_); refine bslice_one rfl 78 94 _ rfl appRC (by decide) (chgC ⟨x, 2, vx.data, vy.data⟩) rfl rfl ?_; clear tokS _t)
            | (have _t := tokA; at_builtin; refine app_new appRC rfl _ _ rfl w1.heap.size _ q.length _ rfl OK.out (chgC ⟨x, 2, vx.data, vy.data⟩) 94 1 rfl rfl (chg_one ⟨x, 2, vx.data, vy.data⟩) (by decide) (by omega) EK.out.size ?_; intro gz capz wz hownz hgrz hbz hbgz; have OZ := Lib.hid hownz; have BZ := Lib.hid (show Ext w1 wz from Below.trans EK.out hbz); clear tokA _t hownz hgrz hbz hbgz))
          go_roundw
          case rel =>
            refine ⟨k + 1, by omega, by go_num, ?_, BZ.out⟩
            rw [ST2.out, List.length_append, chgsC_append, show chgsC [(⟨x, 2, vx.data, vy.data⟩ : Sp.Chg)] = (chgC ⟨x, 2, vx.data, vy.data⟩).toList from List.append_nil _]
            exact OZ.out
          case measure => simp [intOf]; omega
        | true =>
          by_cases hd : dx = dy
          · have t1 : (vx.data == vy.data) = true := by rw [← HDX.out, ← HDY.out, hd]; exact beq_self_eq_true _
            go_wp2_with fail
            refine (LX.out w9 EP9.out).mono ?_
            rintro e wa ⟨va, rfl, hOa, hba⟩
            obtain ⟨Ax, cx, rfl, _⟩ := hOa.read
            have Ea := Lib.hid hba
            clear hOa hba
            go_wp2_with fail
            refine (LY.out wa (EP9.out.trans Ea.out)).mono ?_
            rintro e wb ⟨vb, rfl, hOb, hbb⟩
            obtain ⟨Ay, cy, rfl, _⟩ := hOb.read
            have Eb := Lib.hid (Ea.out.trans hbb)
            have Xb := Lib.hid (X9.out.below Eb.out)
            have Ob := Lib.hid (own_ext O9.out Eb.out)
            have EWb := Lib.hid (EW.out.trans Eb.out)
            clear hOb hbb x0 x1 x2 x3 z1 a4 b4
            have x0 := (Xb.out.cell 0).trans rfl
            have x1 := (Xb.out.cell 1).trans rfl
            have x2 := (Xb.out.cell 2).trans rfl
            have x3 := (Xb.out.cell 3).trans rfl
            have z1 := Xb.out.frozen 1
            by_cases hn : qx.length = qy.length
            · have t2 : ((qx.length : Int) == (qy.length : Int)) = true := by rw [hn]; exact beq_self_eq_true _
              have ST2 := Lib.hid (show Sp.betweenL (D.take (k + 1)) (Sp.rget ma) (Sp.rget mb) = q by
                have : kk = 0 := by rw [KK.out.2.2, hd, hn]; simp
                rw [ST.out, if_pos this, List.append_nil])
              clear KK ST hd hn
              go_wp2
              go_roundw
              case rel => exact ⟨k + 1, by omega, by go_num, by rw [ST2.out]; exact Ob.out, EWb.out⟩
              case measure => simp [intOf]; omega
            · have t2 : ((qx.length : Int) == (qy.length : Int)) = false := by rw [beq_eq_false_iff_ne]; omega
              have ST2 := Lib.hid (show Sp.betweenL (D.take (k + 1)) (Sp.rget ma) (Sp.rget mb) = q ++ [⟨x, 4, vx.data, vy.data⟩] by
                have hk1 : kk = 4 := by rw [KK.out.2.2, hd]; simp [hn]
                rw [ST.out, hk1, if_neg (by decide), HDX.out, HDY.out])
              have OK := Lib.hid (own_far Ob.out (fun e => by have h1 := (HO.out.lt g8 e).2; have h2 := G9.out; omega) (.int .i64 4) : (wb.setCell ⟨g8, 1, none⟩ (.int .i64 4)).ownsRow w1.heap.size 94 4 u5 q.length (chgsC q))
              have EK := Lib.hid (show Ext w1 (wb.setCell ⟨g8, 1, none⟩ (.int .i64 4)) from EWb.out.setCell (p := ⟨g8, 1, none⟩) (by show w1.heap.size ≤ g8; have h1 := HX.out.size; have h2 := G9.out; omega) _)
              have tokA : True := trivial
              have tokS : True := trivial
              clear ST KK
              go_wp2_with (first
                | (have _t := tokS; (with_reducible refine at_bslice rfl ?_); refine bslice_one rfl 78 94 _ rfl appRC (by decide) (chgC ⟨x, 4, vx.data, vy.data⟩) rfl rfl ?_; clear tokS _t)
                | (have _t := tokA; at_builtin; refine app_new appRC rfl _ _ rfl w1.heap.size _ q.length _ rfl OK.out (chgC ⟨x, 4, vx.data, vy.data⟩) 94 1 rfl rfl (chg_one ⟨x, 4, vx.data, vy.data⟩) (by decide) (by omega) EK.out.size ?_; intro gz capz wz hownz hgrz hbz hbgz; have OZ := Lib.hid hownz; have BZ := Lib.hid (show Ext w1 wz from Below.trans EK.out hbz); clear tokA _t hownz hgrz hbz hbgz))
              go_roundw
              case rel =>
                refine ⟨k + 1, by omega, by go_num, ?_, BZ.out⟩
                rw [ST2.out, List.length_append, chgsC_append, show chgsC [(⟨x, 4, vx.data, vy.data⟩ : Sp.Chg)] = (chgC ⟨x, 4, vx.data, vy.data⟩).toList from List.append_nil _]
                exact OZ.out
              case measure => simp [intOf]; omega
          · have t1 : (vx.data == vy.data) = false := by rw [← HDX.out, ← HDY.out, beq_eq_false_iff_ne]; exact hd
            have ST2 := Lib.hid (show Sp.betweenL (D.take (k + 1)) (Sp.rget ma) (Sp.rget mb) = q ++ [⟨x, 3, vx.data, vy.data⟩] by
              have hk1 : kk = 3 := by rw [KK.out.2.2]; simp [hd]
              rw [ST.out, hk1, if_neg (by decide), HDX.out, HDY.out])
            have OK := Lib.hid (own_far O9.out (fun e => by have h1 := (HO.out.lt g8 e).2; have h2 := G9.out; omega) (.int .i64 3) : (w9.setCell ⟨g8, 1, none⟩ (.int .i64 3)).ownsRow w1.heap.size 94 4 u5 q.length (chgsC q))
            have EK := Lib.hid (show Ext w1 (w9.setCell ⟨g8, 1, none⟩ (.int .i64 3)) from EW.out.setCell (p := ⟨g8, 1, none⟩) (by show w1.heap.size ≤ g8; have h1 := HX.out.size; have h2 := G9.out; omega) _)
            have tokA : True := trivial
            have tokS : True := trivial
            clear ST KK
            go_wp2_with (first
              | (have _t := tokS; (with_reducible refine at_bslice rfl ?_); refine bslice_one rfl 78 94 _ rfl appRC (by decide) (chgC ⟨x, 3, vx.data, vy.data⟩) rfl rfl ?_; clear tokS _t)
              | (have _t := tokA; at_builtin; refine app_new appRC rfl _ _ rfl w1.heap.size _ q.length _ rfl OK.out (chgC ⟨x, 3, vx.data, vy.data⟩) 94 1 rfl rfl (chg_one ⟨x, 3, vx.data, vy.data⟩) (by decide) (by omega) EK.out.size ?_; intro gz capz wz hownz hgrz hbz hbgz; have OZ := Lib.hid hownz; have BZ := Lib.hid (show Ext w1 wz from Below.trans EK.out hbz); clear tokA _t hownz hgrz hbz hbgz))
            go_roundw
            case rel =>
              refine ⟨k + 1, by omega, by go_num, ?_, BZ.out⟩
              rw [ST2.out, List.length_append, chgsC_append, show chgsC [(⟨x, 3, vx.data, vy.data⟩ : Sp.Chg)] = (chgC ⟨x, 3, vx.data, vy.data⟩).toList from List.append_nil _]
              exact OZ.out
            case measure => simp [intOf]; omega
    · obtain rfl : k = D.length := by omega
      rw [List.take_length, BB.out] at HO
      go_wp2
      go_ret
      exact ⟨_, rfl, own_lowT HO.out E1.out.size, E1.out.trans HX.out⟩
end Go.Proofs.YtmlfnidckfeebaaGreatDoor
