/- Walks: the document's pins: Put. Plain: the program's pins and the document's go together. -/
import Derived.Test.YtedjiaenodechaaGreatDoorPP47
namespace Go.Proofs.YtedjiaenodechaaGreatDoor
open Go.RowKit Go.Shelf
attribute [local go_sem] yUpon strOf_toList
section
variable {P : Program} {ops : Array Oper} {T : World → Prop}
theorem floatT_load_mid {a : Act} {o : Oper} {K : Act → Prop} (hw : Region.wanted o (yielded ops a.tmps) = true) (ty : TypeId) (x : Operand) (ho : o.op = .load ty x) (b off : Nat) (hx : a.eval x = .pointer (some ⟨b, off, none⟩)) (vs : List Value) (d : TypeDesc)
    (hc : ∀ W, T W → W.rangeAt b off vs) (hu : P.underlying ty = some d) (hd : d.isRow = true) (hi : (P.info? ty).map (·.size) = some vs.length) (h : K (a.put o.dst (.agg vs.toArray))) : ∃ v, YieldsT P ops T o v a ∧ K (a.put o.dst v) := by
  refine ⟨_, .inl ⟨hw, fun W hS => ?_⟩, h⟩
  unfold execOp
  simp only [ho, hx, Sem.run_bind, run_loadAt_mid W b off ty vs d (hc W hS) hu hd hi, Result.andThen_ok, Sem.run_pure]
end
theorem add_at (a o j : Nat) : (⟨a, o, none⟩ : Addr).add j = ⟨a, o + j, none⟩ := by simp [Addr.add]; try omega
theorem rlasts_at (q : List RPin) (k : Nat) (h : k < q.length) : rlastL (rlasts q) k = (q[k]).2.2 := by simp [rlastL, rlasts, h]
set_option maxRecDepth 100000 in
set_option maxHeartbeats 4000000 in
theorem rpput_calls (l : List RPin) (A : Option Addr) (cap : Nat) (d : Sp.Bs) (hd : d.length = 32) (tr now : Int) (w : World) (h : Cells w A (rpsC l)) (ok : ROk l) (hl : l.length ≤ 1000) (hz : ∀ x ∈ l, 0 ≤ x.2.1) :
    Calls Tryz.prog 31 #[.slice A l.length cap, digV d, .int .i64 tr, .int .i64 now] w fun e w' => ∃ v, e = .returned v ∧ w'.ownsRow w.heap.size 115 34 v (rputL d tr (clampS now) l).length (rpsC (rputL d tr (clampS now) l)) ∧ Ext w w' := by
  have FC := Lib.hid fun (W : World) (e : Ext w W) => rfind_calls l A cap d hd now W (h.ext e) ok hl
  obtain ⟨n, hn⟩ : ∃ n, n = clampS now := ⟨_, rfl⟩
  have CC := Lib.hid (show ∀ w, Calls Tryz.prog 34 #[.int .i64 now] w fun e w' => e = .returned (.int .i64 n) ∧ w = w' from fun w => by rw [hn, ← clamp_same]; exact rclamp_calls now w)
  have TN := Lib.hid (show Tm n by rw [hn]; exact clamp_tm now)
  rw [← hn] at FC ⊢
  obtain ⟨q, hq⟩ : ∃ q, q = roldS n l := ⟨_, rfl⟩
  have QO := Lib.hid (show ROk q by rw [hq]; exact roldS_ok ok)
  have QL := Lib.hid (show q.length ≤ 1000 by rw [hq]; exact Nat.le_trans (List.length_filter_le _ _) hl)
  have QZ := Lib.hid (show ∀ x ∈ q, 0 ≤ x.2.1 by rw [hq]; exact fun x hx => hz x (List.mem_filter.1 hx).1)
  have FL := Lib.hid (show rfindL d n l = (match rK d q with | some k => q.modify k (rtouch n) | none => q) by rw [hq]; rfl)
  have FI := Lib.hid (show rfindI d n l = (match rK d q with | some k => ((q[k]?).map (·.2.1)).getD 0 | none => -1) by rw [hq]; rfl)
  have PS := Lib.hid (show rputL d tr n l = (match rK d q with | some _ => rfindL d n l | none => rroom q ++ [(d, tr, n)]) by rw [hq]; rfl)
  have DL := Lib.hid (show (d.map byteV).length = 32 by rw [List.length_map, hd])
  have DM := Lib.hid (show (d.map byteV).toArray = digC d from rfl)
  have BP := Lib.hid (built_rp d hd tr n)
  have DD := Lib.hid hd
  have tok1 : True := trivial
  clear h ok hn hq hd hz
  go_enter Tryz.func31, Tryz.ntmps31
  go_upto_region 1 with (have _t := tok1; ((with_reducible refine at_box (t := 41) rfl ?_); refine box_new rfl (cs := digC d) (t := 41) (by first | (go_simp; done) | (go_simp; rfl)) ?_; intro g2 w2 hg2 hx2 hb2; have X2 := Lib.hid hx2; have B2 := Lib.hid (show Ext w w2 from hb2); clear tok1 _t hx2 hb2 hg2))
  have RG := Lib.hid (show ∀ W, Ext w2 W → W.rangeAt g2 0 (d.map byteV) from fun W e j u hj => by
    rw [Nat.zero_add, (X2.out.below e).cell j]
    simpa [digC] using hj)
  have tok2 : True := trivial
  go_wp2_with (have _t := tok2; ((with_reducible refine at_load (t := 41) rfl ?_); refine wpList_load_mid rfl _ _ rfl g2 0 rfl (d.map byteV) _ (RG.out _ (Ext.refl _)) Tryz.underlying41 rfl (by rw [DL.out]; kernel_rfl) ?_; rw [DM.out]; clear tok2 _t))
  refine (FC.out w2 B2.out).mono ?_
  rintro e w3 ⟨v3, rfl, hO3, hb3⟩
  obtain ⟨A3, c3, rfl, _⟩ := own_read hO3
  have O3 := Lib.hid hO3
  have E3 := Lib.hid (B2.out.trans hb3)
  have Z3 := Lib.hid (show Ext w2 w3 from hb3)
  clear hO3 hb3
  have ql := QL.out
  cases hu : rK d q with
  | some k =>
    have hk : k < q.length := by
      unfold rK at hu
      rw [List.findIdx?_eq_some_iff_getElem] at hu
      exact hu.1
    obtain ⟨m, hm⟩ : ∃ m, m = rfindI d n l := ⟨_, rfl⟩
    have m0 : 0 ≤ m := by
      rw [hm, FI.out, hu]
      simp only [List.getElem?_eq_getElem hk, Option.map_some, Option.getD_some]
      exact QZ.out _ (List.getElem_mem hk)
    have PS2 := Lib.hid (show rputL d tr n l = rfindL d n l by rw [PS.out, hu])
    rw [← hm]
    clear hu hk hm
    go_wp2_with fail
    go_ret
    exact ⟨_, rfl, by rw [PS2.out]; exact own_lowT O3.out B2.out.size, E3.out⟩
  | none =>
    have FI2 := Lib.hid (show rfindI d n l = -1 by rw [FI.out, hu])
    have FL2 := Lib.hid (show rfindL d n l = q by rw [FL.out, hu])
    have PS2 := Lib.hid (show rputL d tr n l = rroom q ++ [(d, tr, n)] by rw [PS.out, hu])
    rw [FI2.out]
    have O4 := Lib.hid (show w3.ownsRow w.heap.size 115 34 (.slice A3 q.length c3) q.length (rpsC q) by
      have := own_lowT O3.out B2.out.size
      rwa [FL2.out] at this)
    rw [FL2.out]
    clear hu
    go_upto_if 25 with fail
    go_cut [9, 25] (fun v9 _ wx => wx.ownsRow w.heap.size 115 34 v9 (rroom q).length (rpsC (rroom q)) ∧ Ext w3 wx)
    case first =>
      by_cases h4 : q.length < 4
      · have RS := Lib.hid (show rroom q = q by unfold rroom; rw [if_pos h4])
        have e1 : ¬ (4 : Int) ≤ (q.length : Int) := by omega
        have e2 : (q.length : Int) < 4 := by omega
        clear h4
        go_wp2_with fail
        go_meet
        case rel => exact ⟨by rw [RS.out]; exact O4.out, Ext.refl _⟩
      · have RS := Lib.hid (show rroom q = q.take (minL (rlasts q) q.length) ++ q.drop (minL (rlasts q) q.length + 1) by unfold rroom; rw [if_neg h4])
        have e1 : (4 : Int) ≤ (q.length : Int) := by omega
        have hpos : 0 < q.length := by omega
        have RLL := Lib.hid (show (rlasts q).length = q.length by simp [rlasts])
        obtain ⟨a, c4, e4, hBa⟩ := owned_form O4.out hpos
        cases e4
        clear h4
        go_wp2_with fail
        rw [show decide ((4 : Int) ≤ (q.length : Int)) = true from decide_eq_true e1]
        go_loopw [11, 12] (fun v11 v12 wr => ∃ k : Nat, k ≤ q.length ∧ v12 = .int .i64 k ∧ v11 = .int .i64 (minL (rlasts q) k) ∧ Ext w3 wr) (fun _ v12 _ => q.length - (intOf v12).toNat)
        case atStart => exact ⟨0, Nat.zero_le _, rfl, rfl, Ext.refl _⟩
        case round =>
          obtain ⟨k, hk, rfl, rfl, hb⟩ := hrel
          by_cases hlt : k < q.length
          · have hm := minL_lt (rlasts q) (by rw [RLL.out]; exact hpos) k (by rw [RLL.out]; omega)
            rw [RLL.out] at hm
            have O5 := Lib.hid (own_ext O4.out hb)
            obtain ⟨c0, _, _, _⟩ := own_isBlk O5.out (k * 34 + 33) _ (rpsC_get q k hlt QO.out 33 _ (rpL_num _ (QO.out _ (List.getElem_mem hlt)).1).2)
            obtain ⟨c1, _, _, _⟩ := own_isBlk O5.out (minL (rlasts q) k * 34 + 33) _ (rpsC_get q _ hm QO.out 33 _ (rpL_num _ (QO.out _ (List.getElem_mem hm)).1).2)
            rw [← rlasts_at q k hlt] at c0
            rw [← rlasts_at q _ hm] at c1
            have MS := Lib.hid (show minL (rlasts q) (k + 1) = if rlastL (rlasts q) k < rlastL (rlasts q) (minL (rlasts q) k) then k else minL (rlasts q) k from rfl)
            obtain ⟨m, hmm⟩ : ∃ m, m = minL (rlasts q) k := ⟨_, rfl⟩
            rw [← hmm] at c1 MS hm ⊢
            obtain ⟨lk, hlk⟩ : ∃ lk, lk = rlastL (rlasts q) k := ⟨_, rfl⟩
            obtain ⟨lm, hlm⟩ : ∃ lm, lm = rlastL (rlasts q) m := ⟨_, rfl⟩
            rw [← hlk] at c0 MS
            rw [← hlm] at c1 MS
            have b1 : (k : Int) < (q.length : Int) := by omega
            have b2 : (m : Int) < (q.length : Int) := by omega
            have C0 := Lib.hid c0
            have C1 := Lib.hid c1
            have EB := Lib.hid hb
            clear hmm hlk hlm c0 c1 hb
            go_wp2_with fail
            refine wp_region_det (fun W => Ext wr W) (by kernel_rfl) (by kernel_rfl) (Below.refl _ _).drew ?_
            repeat (first
              | (refine det_step (fun K hK => ?_)
                 apply Exists.intro
                 refine ⟨Or.inl ⟨rfl, fun W hS => ?_⟩, ?_⟩
                 · replace hS : Ext wr W := hS
                   have z0 := hS.cell C0.out; have z1 := hS.cell C1.out
                   go_simp
                   first
                   | exact rfl
                   | exact ⟨rfl, hS⟩
                   | (fail)
                 go_simp
                 refine hK _ ?_
                 clear hK K)
              | (refine det_step (fun K hK => ?_); refine det_no' rfl ?_; go_simp; refine hK _ ?_; clear hK K))
            refine det_nil ?_
            intro W9 hS
            replace hS : Ext _ W9 := hS
            have EW := Lib.hid (EB.out.trans hS)
            clear hS
            go_wp2_with fail
            · rename_i hd
              go_roundw
              case rel => exact ⟨k + 1, by omega, by go_num, by rw [MS.out, if_pos hd], EW.out⟩
              case measure => simp [intOf]; omega
            · rename_i hd
              go_roundw
              case rel => exact ⟨k + 1, by omega, by go_num, by rw [MS.out, if_neg (by omega)], EW.out⟩
              case measure => simp [intOf]; omega
          · obtain rfl : k = q.length := by omega
            have hm := minL_lt (rlasts q) (by rw [RLL.out]; exact hpos) _ (by rw [RLL.out]; exact Nat.le_refl _)
            rw [RLL.out] at hm
            obtain ⟨m, hmm⟩ : ∃ m, m = minL (rlasts q) q.length := ⟨_, rfl⟩
            rw [← hmm] at RS hm ⊢
            have O5 := Lib.hid (own_ext O4.out hb)
            have EB := Lib.hid hb
            have b2 : (m : Int) < (q.length : Int) := by omega
            have b3 : IntKind.i64.wrap ((m : Int) + 1) = (m : Int) + 1 := IntWalk.i64_in _ (by omega)
            have b4 : ((m : Int) + 1).toNat = m + 1 := by omega
            have b5 : (m : Int) + 1 ≤ (q.length : Int) := by omega
            clear hmm hb
            have hcap : q.length ≤ c3 := by
              rcases O5.out.2 with ⟨h, _⟩ | ⟨g', cap', cur, hv, hb, hh, hn, hc, hs, ht⟩
              · cases h
              · cases hv; exact hn
            have b6 : (m : Int) ≤ (c3 : Int) := by omega
            have b7 : (q.length : Int) ≤ (c3 : Int) := by omega
            have C5 := Lib.hid (show ∀ W, Ext wr W → ∀ (j : Nat) u, (rpsC q)[j]? = some u → W.cell? ⟨a, j, none⟩ = some u from fun W e j u hj => (own_isBlk (own_ext O5.out e) j u hj).1)
            have L1 := Lib.hid (show (rpsC (q.take m)).length = m * 34 by rw [rpsC_len _ (fun x hx => QO.out x (List.mem_of_mem_take hx)), List.length_take, Nat.min_eq_left (by omega)])
            have L2 := Lib.hid (show (rpsC (q.drop (m + 1))).length = (q.length - (m + 1)) * 34 by rw [rpsC_len _ (fun x hx => QO.out x (List.mem_of_mem_drop hx)), List.length_drop])
            have P1 := Lib.hid (rps_part QO.out 0 m (by omega))
            have P2 := Lib.hid (rps_part QO.out (m + 1) (q.length - (m + 1)) (by omega))
            have tokA : True := trivial
            have tokB : True := trivial
            go_upto_region 11 with fail
            obtain ⟨off, hoff⟩ : ∃ off, off = if c3 = m + 1 then 0 else (m + 1) * 34 := ⟨_, rfl⟩
            have PX := Lib.hid (show ∀ x y, Value.slice (if c3 = m + 1 then some ⟨a, 0, none⟩ else some ⟨a, (m + 1) * 34, none⟩) x y = Value.slice (some ⟨a, off, none⟩) x y from fun x y => by rw [hoff]; split <;> rfl)
            have N2 := Lib.hid (show ∀ W, Ext wr W → ∀ (j : Nat) u, (rpsC (q.drop (m + 1)))[j]? = some u → W.cell? ((⟨a, off, none⟩ : Addr).add j) = some u from fun W e j u hj => by
              by_cases h : c3 = m + 1
              · rw [List.drop_of_length_le (by omega)] at hj
                simp [rpsC] at hj
              · rw [hoff, if_neg h]
                rw [add_at]
                exact C5.out W e _ u (P2.out j u (by rw [List.take_of_length_le (by rw [List.length_drop]; omega)]; exact hj)))
            have N1 := Lib.hid (show ∀ W, Ext wr W → ∀ (j : Nat) u, (rpsC (q.take m))[j]? = some u → W.cell? ((⟨a, 0, none⟩ : Addr).add j) = some u from fun W e j u hj => by
              rw [add_at]
              refine C5.out W e _ u ?_
              have := P1.out j u (by rw [List.drop_zero]; exact hj)
              simpa using this)
            have b8 : (0 : Int) ≤ (m : Int) + 1 := by omega
            have tokA : True := trivial
            have tokB : True := trivial
            clear hoff
            go_region_law (first
              | (have _tA := tokA; refine step_app_cells appRP rfl (.tmp 44) (.tmp 47) rfl wr.heap.size _ 0 [] rfl (World.ownsRow_made wr.drew #[] 0 (Nat.le_refl _) (Nat.zero_le _) rfl) ⟨a, 0, none⟩ m c3 (rpsC (q.take m)) rfl L1.out (N1.out _ (Ext.alloc wr _).drew) (rpsC_one _) (by omega) (by simp) ?_; rintro v4 w4 ho4 hg4 hb4; have HO4 := Lib.hid (show w4.ownsRow wr.heap.size 115 34 v4 m (rpsC (q.take m)) from by have := ho4; rwa [Nat.zero_add, List.nil_append] at this); have HB4 := Lib.hid (show Ext wr w4 from Below.trans (Ext.alloc wr _).drew hb4); clear ho4 hg4 hb4 tokA _tA)
              | (have _tB := tokB; refine step_app_cells appRP rfl (.tmp 48) (.tmp 52) rfl wr.heap.size _ m (rpsC (q.take m)) rfl HO4.out ⟨a, off, none⟩ (q.length - (m + 1)) (c3 - (m + 1)) (rpsC (q.drop (m + 1))) (PX.out _ _) L2.out (N2.out _ HB4.out) (rpsC_one _) (by omega) HB4.out.size ?_; rintro v5 w5 ho5 hg5 hb5; have HO5 := Lib.hid ho5; have HB5 := Lib.hid (show Ext wr w5 from Below.trans HB4.out hb5); clear ho5 hg5 hb5 tokB _tB))
            go_wp2
            all_goals (
              go_meet
              case rel =>
                refine ⟨?_, EB.out.trans HB5.out⟩
                have hL : (rroom q).length = m + (q.length - (m + 1)) := by rw [RS.out, List.length_append, List.length_take, List.length_drop]; omega
                have hC : rpsC (rroom q) = rpsC (q.take m) ++ rpsC (q.drop (m + 1)) := by rw [RS.out, rpsC_append]
                rw [hL, hC]
                exact own_lowT HO5.out (Nat.le_trans E3.out.size EB.out.size))
    case rest =>
      obtain ⟨hOx, hbx⟩ := hcut
      obtain ⟨wx, hwx⟩ : ∃ wx, wx = wc := ⟨_, rfl⟩
      rw [← hwx] at hOx hbx ⊢
      obtain ⟨r, hr⟩ : ∃ r, r = rroom q := ⟨_, rfl⟩
      have RL := Lib.hid (show r.length ≤ 1000 by
        rw [hr]
        unfold rroom
        split
        · exact QL.out
        · rw [List.length_append, List.length_take, List.length_drop]; omega)
      rw [← hr] at hOx PS2
      have OX := Lib.hid hOx
      have EX := Lib.hid hbx
      obtain ⟨A5, c5, rfl, _⟩ := own_read hOx
      have BX := Lib.hid (E3.out.trans hbx)
      have RX := Lib.hid (show ∀ W, Ext wx W → W.rangeAt g2 0 (d.map byteV) from fun W e => RG.out W ((Z3.out.trans EX.out).trans e))
      have rl := RL.out
      clear hOx hbx hr hwx
      go_wp2_with fail
      obtain ⟨ka, hka⟩ : ∃ ka, ka = (rpL (d, tr, n)).toArray := ⟨_, rfl⟩
      have BP2 := Lib.hid (show (Tryz.prog).built 115 [(0, digV d), (1, .int .i64 tr), (2, .int .i64 n)] = some ka by rw [hka]; exact BP.out)
      have KA := Lib.hid (show ka.size = 34 by rw [hka, List.size_toArray, rpL_len _ DD.out])
      have KO := Lib.hid (show ∀ u ∈ ka.toList, u.oneCell' = true by rw [hka]; exact rpL_one _)
      have KT := Lib.hid (show ka.toList = rpsC [(d, tr, n)] by rw [hka, rpsC, rpsC, List.append_nil])
      clear hka
      refine wp_region_seqT (fun W => Ext wx W) 4 7 (by kernel_rfl) (by kernel_rfl) (Ext.refl wx).drew ?_
      simp only [List.take_succ_cons, List.take_zero, List.drop_succ_cons, List.drop_zero]
      repeat (first
        | (refine floatT_step (fun K hK => ?_); (refine floatT_load_mid rfl 41 (.tmp 5) rfl g2 0 rfl (d.map byteV) _ (fun W hS => RX.out W hS) Tryz.underlying41 rfl (by rw [DL.out]; kernel_rfl) ?_; rw [DM.out]); go_simp; refine hK _ ?_; clear hK K)
        | (refine floatT_step (fun K hK => ?_)
           apply Exists.intro
           refine ⟨Or.inl ⟨rfl, fun W hS => ?_⟩, ?_⟩
           · have hz : Ext wx W := hS
             go_simp
             first | done | exact rfl
           go_simp
           refine hK _ ?_
           clear hK K))
      refine floatT_nil ?_
      refine seqT_succ (n := 2) (fun Q' hQ' => ?_)
      go_wp2_with fail
      refine (CC.out _).mono ?_
      rintro e w8 ⟨rfl, rfl⟩
      go_wp2
      refine hQ' _ _ (Ext.refl wx).drew ?_
      clear hQ'
      refine seqT_succ (n := 1) (fun Q' hQ' => ?_)
      go_wp2_with ((with_reducible refine at_build rfl ?_); refine list_build rfl 115 #[(0, .tmp 55), (1, .tmp 56), (2, .tmp 58)] rfl ka (by first | exact BP2.out | (go_simp; exact BP2.out)) ?_)
      refine hQ' _ _ (Ext.refl wx).drew ?_
      clear hQ'
      refine seqT_succ (n := 0) (fun Q' hQ' => ?_)
      go_wp2_with ((with_reducible refine at_bslice rfl ?_); refine bslice_one rfl 63 115 _ rfl appRP (by decide) ka rfl KA.out ?_)
      refine hQ' _ _ (Below.alloc (Ext.refl wx).drew (Ext.refl wx).drew.size _) ?_
      clear hQ'
      refine seqT_zero ?_
      have tokA : True := trivial
      go_wp2_with (have _t := tokA; at_builtin; refine app_new appRP rfl _ _ rfl w.heap.size _ r.length _ rfl (own_ext OX.out (Ext.refl wx).drew) ka 115 1 rfl (by rw [KA.out]) KO.out (by decide) (by omega) (Nat.le_trans BX.out.size (Ext.refl wx).drew.size) ?_; intro g6 cap6 w10 hown10 hgr10 hb10 hbg10; have O10 := Lib.hid hown10; have B10 := Lib.hid hb10; clear tokA _t hown10 hgr10 hb10 hbg10)
      refine ⟨rfl, ?_⟩
      go_wp2
      go_ret
      have hL : (rputL d tr n l).length = r.length + 1 := by rw [PS2.out, List.length_append]; rfl
      have hC : rpsC (rputL d tr n l) = rpsC r ++ ka.toList := by rw [PS2.out, rpsC_append, KT.out]
      refine ⟨_, rfl, ?_, Below.trans BX.out.drew B10.out⟩
      rw [hL, hC]
      exact O10.out
end Go.Proofs.YtedjiaenodechaaGreatDoor
namespace Go.Proofs.YtedjiaenodechaaGreatDoor
open Go.RowKit Go.Shelf
/-- A pin of both: where its tree lies, which tree it is, when it was last of use. -/
abbrev ZPin := Option Addr × Nat × Int
def dgZ (k : Nat) : Sp.Bs := Sp.nsum (Sp.nodeT ((Sp.treeK k).getD .nil))
def zP (z : ZPin) : Pin := (z.1, Sp.treeK z.2.1, z.2.2)
def zR (z : ZPin) : RPin := (dgZ z.2.1, (z.2.1 : Int), z.2.2)
def oldZ (n : Int) (l : List ZPin) : List ZPin := l.filter fun z => decide (n - z.2.2 < 100)
def kZ (d : Sp.Bs) (l : List ZPin) : Option Nat := l.findIdx? fun z => dgZ z.2.1 == d
def touchZ (n : Int) (z : ZPin) : ZPin := (z.1, z.2.1, n)
def lastsZ (l : List ZPin) : List Int := l.map (·.2.2)
def roomZ (l : List ZPin) : List ZPin := if l.length < 4 then l else l.take (minL (lastsZ l) l.length) ++ l.drop (minL (lastsZ l) l.length + 1)
def findZ (d : Sp.Bs) (n : Int) (l : List ZPin) : List ZPin := match kZ d (oldZ n l) with | some k => (oldZ n l).modify k (touchZ n) | none => oldZ n l
def putZ (a : Option Addr) (k : Nat) (n : Int) (l : List ZPin) : List ZPin := match kZ (dgZ k) (oldZ n l) with | some _ => findZ (dgZ k) n l | none => roomZ (oldZ n l) ++ [(a, k, n)]
theorem oldZ_p (n : Int) (l : List ZPin) : oldS n (l.map zP) = (oldZ n l).map zP := by
  unfold oldS oldZ
  rw [List.filter_map]
  rfl
theorem oldZ_r (n : Int) (l : List ZPin) : roldS n (l.map zR) = (oldZ n l).map zR := by
  unfold roldS oldZ
  rw [List.filter_map]
  rfl
theorem kZ_p (d : Sp.Bs) (l : List ZPin) : useK d (l.map zP) = kZ d l := by
  unfold useK kZ
  rw [List.findIdx?_map]
  rfl
theorem kZ_r (d : Sp.Bs) (l : List ZPin) : rK d (l.map zR) = kZ d l := by
  unfold rK kZ
  rw [List.findIdx?_map]
  rfl
theorem modify_map {α β : Type} (f : α → β) (g : β → β) (h : α → α) (e : ∀ x, g (f x) = f (h x)) : ∀ (l : List α) (k : Nat), (l.map f).modify k g = (l.modify k h).map f
  | [], k => by cases k <;> rfl
  | x :: r, 0 => by simp [List.modify_cons, e]
  | x :: r, k + 1 => by
    have := modify_map f g h e r k
    simp [this]
theorem findZ_p (d : Sp.Bs) (n : Int) (l : List ZPin) : findP d n (l.map zP) = (findZ d n l).map zP := by
  unfold findP useP findZ
  rw [oldZ_p, kZ_p]
  cases kZ d (oldZ n l) with
  | none => rfl
  | some k => exact modify_map zP (touch n) (touchZ n) (fun _ => rfl) _ _
theorem findZ_r (d : Sp.Bs) (n : Int) (l : List ZPin) : rfindL d n (l.map zR) = (findZ d n l).map zR := by
  unfold rfindL findZ
  rw [oldZ_r, kZ_r]
  cases kZ d (oldZ n l) with
  | none => rfl
  | some k => exact modify_map zR (rtouch n) (touchZ n) (fun _ => rfl) _ _
theorem lastAt_z (l : List ZPin) (i : Nat) : lastAt (l.map zP) i = rlastL (lastsZ l) i := by
  unfold lastAt rlastL lastsZ
  rw [List.getElem?_map, List.getElem?_map]
  cases l[i]? <;> rfl
theorem minN_z (l : List ZPin) : ∀ k, minN (l.map zP) k = minL (lastsZ l) k
  | 0 => rfl
  | k + 1 => by
    rw [minN, minL, lastAt_z, minN_z l k, lastAt_z]
theorem lasts_z (l : List ZPin) : rlasts (l.map zR) = lastsZ l := by
  unfold rlasts lastsZ
  rw [List.map_map]
  rfl
theorem selN_ne (l : List Pin) (m : Nat) : ∀ k, k ≤ l.length → selN (fun i => decide (i ≠ m)) l k = (l.take k).take m ++ (l.take k).drop (m + 1)
  | 0, _ => by simp [selN]
  | k + 1, hk => by
    rw [selN_succ _ _ _ hk, selN_ne l m k (by omega), List.take_succ_eq_append_getElem hk]
    have hl : (l.take k).length = k := by rw [List.length_take]; omega
    obtain ⟨A, hA⟩ : ∃ A, A = l.take k := ⟨_, rfl⟩
    rw [← hA] at hl ⊢
    by_cases h : k = m
    · subst h
      have e1 : A.take k = A := List.take_of_length_le (by omega)
      have e2 : A.drop (k + 1) = [] := List.drop_eq_nil_of_le (by omega)
      have e3 : (A ++ [l[k]]).take k = A := by rw [List.take_append_of_le_length (by omega), e1]
      have e4 : (A ++ [l[k]]).drop (k + 1) = [] := List.drop_eq_nil_of_le (by rw [List.length_append, hl]; simp)
      rw [if_neg (by simp), e1, e2, e3, e4, List.append_nil]
    · rw [if_pos (by simpa using h)]
      by_cases h2 : k < m
      · have e1 : A.take m = A := List.take_of_length_le (by omega)
        have e2 : A.drop (m + 1) = [] := List.drop_eq_nil_of_le (by omega)
        have e3 : (A ++ [l[k]]).take m = A ++ [l[k]] := List.take_of_length_le (by rw [List.length_append, hl]; simp; omega)
        have e4 : (A ++ [l[k]]).drop (m + 1) = [] := List.drop_eq_nil_of_le (by rw [List.length_append, hl]; simp; omega)
        rw [e1, e2, e3, e4]
        simp
      · rw [List.take_append_of_le_length (by omega), List.drop_append_of_le_length (by omega), List.append_assoc]
theorem roomZ_p (l : List ZPin) : roomS (l.map zP) = (roomZ l).map zP := by
  unfold roomS roomZ
  rw [List.length_map]
  split
  · rfl
  · rw [minN_z, ← List.length_map (f := zP), selN_ne _ _ _ (Nat.le_refl _), List.take_length, List.length_map, List.map_append, List.map_take, List.map_drop]
theorem roomZ_r (l : List ZPin) : rroom (l.map zR) = (roomZ l).map zR := by
  unfold rroom roomZ
  rw [List.length_map, lasts_z]
  split
  · rfl
  · rw [List.map_append, List.map_take, List.map_drop]
theorem putZ_p (a : Option Addr) (k : Nat) (n : Int) (l : List ZPin) : putS (a, Sp.treeK k) n (l.map zP) = (putZ a k n l).map zP := by
  have e : dgP (a, Sp.treeK k, n) = dgZ k := rfl
  unfold putS putZ
  simp only [e]
  rw [oldZ_p, kZ_p]
  cases h : kZ (dgZ k) (oldZ n l) with
  | none =>
    show roomS ((oldZ n l).map zP) ++ _ = _
    rw [roomZ_p, List.map_append]
    rfl
  | some j =>
    show useP (dgZ k) n ((oldZ n l).map zP) = _
    rw [← oldZ_p]
    exact findZ_p _ _ _
theorem putZ_r (a : Option Addr) (k : Nat) (n : Int) (l : List ZPin) : rputL (dgZ k) (k : Int) n (l.map zR) = (putZ a k n l).map zR := by
  unfold rputL putZ
  rw [oldZ_r, kZ_r]
  cases h : kZ (dgZ k) (oldZ n l) with
  | none =>
    show rroom ((oldZ n l).map zR) ++ _ = _
    rw [roomZ_r, List.map_append]
    rfl
  | some j => exact findZ_r _ _ _
theorem foundZ (d : Sp.Bs) (n : Int) (l : List ZPin) : foundV d n (l.map zP) = (match kZ d (oldZ n l) with | some k => .tuple #[.pointer (((oldZ n l)[k]?).bind (·.1)), .bool true] | none => .tuple #[.pointer none, .bool false]) := by
  unfold foundV
  rw [oldZ_p, kZ_p]
  cases kZ d (oldZ n l) with
  | none => rfl
  | some k =>
    simp only [List.getElem?_map]
    cases (oldZ n l)[k]? <;> rfl
theorem rfoundZ (d : Sp.Bs) (n : Int) (l : List ZPin) : rfindI d n (l.map zR) = (match kZ d (oldZ n l) with | some k => (((oldZ n l)[k]?).map fun z => (z.2.1 : Int)).getD 0 | none => -1) := by
  unfold rfindI
  rw [oldZ_r, kZ_r]
  cases kZ d (oldZ n l) with
  | none => rfl
  | some k =>
    simp only [List.getElem?_map]
    cases (oldZ n l)[k]? <;> rfl
/-- What holds of the pins of both. -/
def ZOk (l : List ZPin) : Prop := ∀ z ∈ l, z.2.1 < 7 ∧ Tm z.2.2
theorem ZOk.old {l : List ZPin} {n : Int} (h : ZOk l) : ZOk (oldZ n l) := fun z hz => h z (List.mem_filter.1 hz).1
theorem ZOk.modify {l : List ZPin} {n : Int} (h : ZOk l) (hn : Tm n) (k : Nat) : ZOk (l.modify k (touchZ n)) := fun z hz => by
  obtain ⟨i, hi, rfl⟩ := List.getElem_of_mem hz
  rw [List.getElem_modify]
  have hi2 : i < l.length := by simpa using hi
  have := h _ (List.getElem_mem hi2)
  split
  · exact ⟨this.1, hn⟩
  · exact this
theorem ZOk.find {l : List ZPin} {n : Int} (h : ZOk l) (hn : Tm n) (d : Sp.Bs) : ZOk (findZ d n l) := by
  unfold findZ
  split
  · exact h.old.modify hn _
  · exact h.old
theorem roomZ_mem {l : List ZPin} {z : ZPin} (h : z ∈ roomZ l) : z ∈ l := by
  unfold roomZ at h
  split at h
  · exact h
  · rcases List.mem_append.1 h with h | h
    · exact List.mem_of_mem_take h
    · exact List.mem_of_mem_drop h
theorem ZOk.put {l : List ZPin} {n : Int} (h : ZOk l) (hn : Tm n) (a : Option Addr) (k : Nat) (hk : k < 7) : ZOk (putZ a k n l) := by
  unfold putZ
  split
  · exact h.find hn _
  · intro z hz
    rcases List.mem_append.1 hz with hz | hz
    · exact h.old z (roomZ_mem hz)
    · obtain rfl := List.mem_singleton.1 hz
      exact ⟨hk, hn⟩
theorem oldZ_len (n : Int) (l : List ZPin) : (oldZ n l).length ≤ l.length := List.length_filter_le _ _
theorem findZ_len (d : Sp.Bs) (n : Int) (l : List ZPin) : (findZ d n l).length ≤ l.length := by
  unfold findZ
  split
  · rw [List.length_modify]; exact oldZ_len n l
  · exact oldZ_len n l
theorem putZ_len (a : Option Addr) (k : Nat) (n : Int) (l : List ZPin) : (putZ a k n l).length ≤ l.length + 1 := by
  unfold putZ
  split
  · have := findZ_len (dgZ k) n l; omega
  · have h1 := oldZ_len n l
    have h2 : (roomZ (oldZ n l)).length ≤ (oldZ n l).length := by
      unfold roomZ
      split
      · exact Nat.le_refl _
      · rw [List.length_append, List.length_take, List.length_drop]; omega
    rw [List.length_append]
    simp
    omega
theorem zR_ok {l : List ZPin} (h : ZOk l) : ROk (l.map zR) := fun x hx => by
  obtain ⟨z, hz, rfl⟩ := List.mem_map.1 hx
  exact ⟨show (dgZ z.2.1).length = 32 by unfold dgZ; exact Sp.nsum_len _, (h z hz).2⟩
theorem zR_pos (l : List ZPin) : ∀ x ∈ l.map zR, 0 ≤ x.2.1 := fun x hx => by
  obtain ⟨z, _, rfl⟩ := List.mem_map.1 hx
  exact Int.natCast_nonneg _
end Go.Proofs.YtedjiaenodechaaGreatDoor
