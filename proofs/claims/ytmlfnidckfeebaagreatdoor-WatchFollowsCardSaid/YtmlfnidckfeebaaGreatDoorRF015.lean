/- Walks: what stands at a directory is made. The document's trees: rising entries, their paths as texts: plain. What the document finds at a directory of its list, and what the tree has there: plain. Walks: what stands at a directory, if it has something; what stands at the root. -/
import Derived.Deep.DeepCutAuto
import Derived.Test.YtmlfnidckfeebaaGreatDoorRF014
namespace Go.Proofs.YtmlfnidckfeebaaGreatDoor
open Go.RowKit Go.Shelf
attribute [local go_sem] yUpon
set_option maxRecDepth 100000 in
set_option maxHeartbeats 4000000 in
theorem made_calls (t : Sp.T) (A B C : Option Addr) (c c' c'' : Nat) (gs : List Nat) (w : World) (hV : Vers w A t.leaf) (hN : Nams w B (t.kids.map (·.1))) (hL : gs.length = t.kids.length) (hP : Cells w C (ptrsC gs)) (hK : ∀ i (h : i < t.kids.length), InnerAt w (gs.getD i 0) (t.kids[i]).2)
    (hl : t.leaf.length ≤ 1000000) (hp : ∀ v ∈ t.leaf, v.past.length ≤ 1000000) (hk : t.kids.length ≤ 1000000) (hn : ∀ x ∈ t.kids, x.1.length ≤ 1000000) (hs : Sp.sizeT t ≤ 1000000000) (K : KeysAt w 2) :
    Calls Tryz.prog 146 #[.slice A t.leaf.length c, .slice B t.kids.length c', .slice C t.kids.length c''] w fun e w' => ∃ g, e = .returned (.pointer (some ⟨g, 0, none⟩)) ∧ InnerAt w' g t ∧ Ext w w' := by
  have HV := Lib.hid hV
  have HN := Lib.hid hN
  have HL := Lib.hid hL
  have HP := Lib.hid hP
  have HK := Lib.hid hK
  have HPV := Lib.hid hp
  have HNL := Lib.hid hn
  have KK := Lib.hid K
  have HS := Lib.hid hs
  obtain ⟨Z, hZ⟩ : ∃ Z : List Value, Z = List.replicate 32 (.int .u8 0) := ⟨_, rfl⟩
  have ZZ := Lib.hid hZ
  have ZL := Lib.hid (show Z.length = 32 by rw [hZ]; rfl)
  have NW : ∀ G W, Ext w W → ∀ v, isBlk W G 122 (pcC A t.leaf.length c B t.kids.length c' C c'' v Z Z (.bool false)) → PreAt W G t A B C c c' c'' gs (pcC A t.leaf.length c B t.kids.length c' C c'' v Z Z (.bool false)) :=
    fun G W e v hx => ⟨hx, pc_size ZL.out ZL.out, rfl, rfl, rfl, hV.ext e, hN.ext e, hL, hP.ext e, fun i hi => (hK i hi).ext e⟩
  have PRE := Lib.hid NW
  clear hV hN hL hP hK hp hn K hs hZ NW
  have tok1 : True := trivial
  have N0 : ∃ n : Nat, n = Sp.n0 t := ⟨_, rfl⟩
  obtain ⟨n, hn0⟩ := N0
  have HN0 := Lib.hid hn0
  clear hn0
  go_enter Tryz.func146, Tryz.ntmps146
  obtain ⟨bl, hbl⟩ : ∃ bl : Bool, decide (0 < t.leaf.length) = bl := ⟨_, rfl⟩
  go_upto_if 19 with (first
      | (have _t := tok1; ((with_reducible refine at_box (t := 122) rfl ?_); refine box_new rfl (cs := pcC A t.leaf.length c B t.kids.length c' C c'' (.int .i64 0) Z Z (.bool false)) (t := 122) (by rw [ZZ.out]; first | (go_simp; done) | (go_simp; rfl)) ?_; intro g2 w2 hg2 hx2 hb2; have H2 := Lib.hid hx2; have B2 := Lib.hid (show Ext w w2 from hb2); have GG2 := Lib.hid hg2; have f3 := (hx2.cell 3).trans pc_get3; have f4 := hx2.frozen 3; clear tok1 _t hx2 hb2 hg2)))
  go_cut [19] (fun _ wx => isBlk wx g2 122 (pcC A t.leaf.length c B t.kids.length c' C c'' (.int .i64 n) Z Z (.bool false)) ∧ Ext w wx)
  case first =>
    cases bl with
    | true =>
      have hn1 := Lib.hid (show n = 1 by
        rw [HN0.out]
        have : 0 < t.leaf.length := of_decide_eq_true hbl
        exact if_neg (fun h => by rw [h] at this; cases this))
      clear hbl
      go_wp2
      go_meet
      case rel => exact ⟨by rw [hn1.out]; exact H2.out.put 3 _ pc_set3, B2.out.setCell GG2.out _⟩
    | false =>
      have hn1 := Lib.hid (show n = 0 by
        rw [HN0.out]
        have : ¬ 0 < t.leaf.length := of_decide_eq_false hbl
        exact if_pos (List.eq_nil_of_length_eq_zero (by omega)))
      clear hbl
      go_wp2
      go_meet
      case rel => exact ⟨by rw [hn1.out]; exact H2.out, B2.out⟩
  case rest =>
    obtain ⟨hX5, hB5⟩ := hcut
    obtain ⟨w5, hw5⟩ : ∃ w5, w5 = wc := ⟨_, rfl⟩
    rw [← hw5] at hX5 hB5 ⊢
    have X5 := Lib.hid hX5
    have B5 := Lib.hid hB5
    clear hX5 hB5 hw5 hbl f3 f4
    go_wp2_with fail
    go_loopw [25, 8] (fun v25 v8 wr => ∃ (k m : Nat) (v : Value), k ≤ t.kids.length ∧ v25 = .int .i64 k ∧ v = v8 ∧ m = n + Sp.sizeL (t.kids.take k) ∧ isBlk wr g2 122 (pcC A t.leaf.length c B t.kids.length c' C c'' (.int .i64 m) Z Z (.bool false)) ∧ wr.ownsRow (g2 + 1) 268 33 v (Sp.shk t k).length (kidsC (Sp.shk t k)) ∧ Ext w wr ∧ g2 < wr.heap.size) (fun v25 _ _ => t.kids.length - (intOf v25).toNat)
    case atStart => exact ⟨0, n, _, Nat.zero_le _, rfl, rfl, rfl, X5.out, World.ownsRow_nil _ _ _ _, B5.out, X5.out.lt⟩
    case round =>
      obtain ⟨k, m, v, hk2, rfl, rfl, hm, hx, ho, hb, hgw⟩ := hrel
      have HX := Lib.hid hx
      have HO := Lib.hid ho
      have HB := Lib.hid hb
      have GW := Lib.hid hgw
      have HM := Lib.hid hm
      clear hx ho hb hgw hm
      by_cases hlt : k < t.kids.length
      · obtain ⟨cb, co, rfl, hc⟩ := ptrs_at HP.out k (by rw [HL.out]; exact hlt)
        obtain ⟨nb, no, rfl, hnm⟩ := HN.out.at (by simp; omega)
        have pk := hc k (by rw [HL.out]; exact hlt)
        have nk := hnm k (by simpa using hlt)
        rw [List.getElem_map] at nk
        obtain ⟨iz, _, is, ib⟩ := (HK.out k hlt).cells
        have SK1 := Lib.hid (Sp.shk_succ t k hlt)
        have SZ1 := Lib.hid (Sp.size_succ t k hlt)
        have SZ2 := Lib.hid (Sp.size_kid t.kids t.kids[k] (List.getElem_mem hlt))
        have NL := Lib.hid (HNL.out t.kids[k] (List.getElem_mem hlt))
        obtain ⟨x, hxk⟩ : ∃ x, x = t.kids[k] := ⟨_, rfl⟩
        obtain ⟨gk, hgk⟩ : ∃ gk, gk = gs.getD k 0 := ⟨_, rfl⟩
        rw [← hxk] at nk iz is ib SK1 SZ1 SZ2 NL
        rw [← hgk] at pk iz is ib
        obtain ⟨bb, hbb⟩ : ∃ bb : Bool, bb = decide (Sp.entries (Sp.showT x.2) ≠ []) := ⟨_, rfl⟩
        rw [← hbb] at ib
        obtain ⟨sz, hsz⟩ : ∃ sz, sz = Sp.sizeT x.2 := ⟨_, rfl⟩
        rw [← hsz] at iz SZ1 SZ2
        obtain ⟨m2, hm2⟩ : ∃ m2, m2 = m + sz := ⟨_, rfl⟩
        have hmb : m2 ≤ 3000000000 := by
          have h1 := HM.out
          have h2 := Sp.sizeL_take t.kids k
          have h3 := Sp.sizeT_n0 t
          have h4 := HS.out
          have h5 := HN0.out
          have h6 := SZ2.out
          omega
        have w1 : IntKind.i64.wrap ((m : Int) + (sz : Int)) = (m2 : Int) := by rw [IntKind.wrap_i64]; omega
        have E := Lib.hid HB.out
        have p1 := HB.out.cell pk
        have z1 := HB.out.cell iz
        have z2 := HB.out.cell ib
        have f3 := (HX.out.cell 3).trans pc_get3
        have f4 := HX.out.frozen 3
        have NK := Lib.hid nk
        have IS := Lib.hid is
        have HBB := Lib.hid hbb
        have HM2 := Lib.hid hm2
        have b1 : (k : Int) < (t.kids.length : Int) := by omega
        clear hc hnm pk nk iz is ib hxk hgk hbb hsz hm2 hmb
        go_wp2_with fail
        refine wp_region_det_tail (fun W => W = wr.drew) 11 (by kernel_rfl) (by kernel_rfl) rfl ?_
        simp only [List.take_succ_cons, List.take_zero, List.drop_succ_cons, List.drop_zero]
        repeat (first
          | (refine det_step (fun K hK => ?_)
             apply Exists.intro
             refine ⟨Or.inl ⟨rfl, fun W hS => ?_⟩, ?_⟩
             · have hz : W = wr.drew := hS; subst hz
               go_simp
               first
               | exact rfl
               | exact ⟨rfl, hS⟩
               | (fail)
             go_simp
             refine hK _ ?_
             clear hK K)
          | (refine det_step (fun K hK => ?_); refine det_no' rfl ?_; go_simp; refine hK _ ?_; clear hK K))
        refine det_nil ?_
        rintro W rfl
        have hX6 := Lib.hid (show isBlk (wr.setCell ⟨g2, 3, none⟩ (.int .i64 m2)).drew g2 122 (pcC A t.leaf.length c (some ⟨nb, no, none⟩) t.kids.length c' (some ⟨cb, co, none⟩) c'' (.int .i64 m2) Z Z (.bool false)) from (HX.out.put 3 _ pc_set3).drew)
        have hB6 := Lib.hid (show Ext w (wr.setCell ⟨g2, 3, none⟩ (.int .i64 m2)).drew from (HB.out.setCell GG2.out _).drew)
        have hO6 := Lib.hid (show (wr.setCell ⟨g2, 3, none⟩ (.int .i64 m2)).drew.ownsRow (g2 + 1) 268 33 v (Sp.shk t k).length (kidsC (Sp.shk t k)) from owned_drew (own_far HO.out (fun e => by have := (HO.out.lt _ e).1; omega) _))
        have hG6 := Lib.hid (show g2 < (wr.setCell ⟨g2, 3, none⟩ (.int .i64 m2)).drew.heap.size from hX6.out.lt)
        cases bb with
        | false =>
          have hsk : Sp.shk t (k + 1) = Sp.shk t k := by
            rw [SK1.out, if_pos (by have := HBB.out; simpa using this.symm), List.append_nil]
          go_wp2_with fail
          go_roundw
          case rel => exact ⟨k + 1, m2, v, by omega, by go_num, rfl, by have := SZ1.out; have := HM.out; have := HM2.out; omega, hX6.out, by rw [hsk]; exact hO6.out, hB6.out, hG6.out⟩
          case measure => simp [intOf]; omega
        | true =>
          have hsk : Sp.shk t (k + 1) = Sp.shk t k ++ [(x.1, Sp.nsum (Sp.nodeT (Sp.showT x.2)))] := by
            rw [SK1.out, if_neg (by have := HBB.out; simpa using this)]
          have HSK := Lib.hid hsk
          clear hsk
          go_wp2_with fail
          obtain ⟨w6, hw6⟩ : ∃ w6, w6 = (wr.setCell ⟨g2, 3, none⟩ (.int .i64 m2)).drew := ⟨_, rfl⟩
          rw [← hw6] at hX6 hB6 hO6 hG6 ⊢
          clear hw6 p1 z1 z2 f3 f4
          have n1 := hB6.out.cell NK.out
          have N1 := Lib.hid n1
          obtain ⟨ds, hds⟩ : ∃ ds, ds = (Sp.nsum (Sp.nodeT (Sp.showT x.2))).map byteV := ⟨_, rfl⟩
          have is := IS.out
          rw [← hds] at is
          have SKR := Lib.hid (show w6.drew.rangeAt gk 36 ds from fun j v hj => hB6.out.cell (is j v hj))
          have DL := Lib.hid (show ds.length = 32 by rw [hds, List.length_map, Sp.nsum_len])
          obtain ⟨ka, hka⟩ : ∃ ka, ka = (kidL (x.1, Sp.nsum (Sp.nodeT (Sp.showT x.2)))).toArray := ⟨_, rfl⟩
          have BK := Lib.hid (show (Tryz.prog).built 268 [(0, .string (strOf x.1)), (1, .agg ds.toArray)] = some ka by rw [hka, hds]; exact built_kid (x.1, Sp.nsum (Sp.nodeT (Sp.showT x.2))) (Sp.nsum_len _))
          have KA := Lib.hid hka
          have KS := Lib.hid (show ka.size = 1 * 33 by rw [hka, List.size_toArray, kidL_len _ (Sp.nsum_len _)])
          have KO := Lib.hid (show ∀ u ∈ ka.toList, u.oneCell' = true by
            rw [hka]
            intro u hu
            have : u ∈ kidsC [(x.1, Sp.nsum (Sp.nodeT (Sp.showT x.2)))] := by simpa [kidsC] using hu
            exact kids_one _ u this)
          have SL := Lib.hid (show (Sp.shk t k).length ≤ 1000000 by unfold Sp.shk; rw [List.length_map]; have := Sp.showL_len (t.kids.take k); rw [List.length_take] at this; omega)
          obtain ⟨sl, hsl⟩ : ∃ sl, sl = (Sp.shk t k).length := ⟨_, rfl⟩
          rw [← hsl] at hO6 SL
          have HSL := Lib.hid hsl
          have G6 := hG6
          clear hds hka is hsl
          refine wp_region_det_preT (fun W => W = w6.drew) (fun W => Ext w6 W) 1 10 (fun W e => by rw [e]; exact (Ext.refl _).drew) (by kernel_rfl) (by kernel_rfl) rfl ?_
          simp only [List.take_succ_cons, List.take_zero, List.drop_succ_cons, List.drop_zero]
          repeat (first
            | (refine floatT_step (fun K hK => ?_)
               apply Exists.intro
               refine ⟨Or.inl ⟨rfl, fun W hS => ?_⟩, ?_⟩
               · skip
                 go_simp
                 first | done | exact rfl
               go_simp
               refine hK _ ?_
               clear hK K))
          refine floatT_nil ?_
          repeat (first
            | (refine det_step (fun K hK => ?_); (first | (refine det_load_mid rfl 36 (.tmp 52) rfl gk 36 rfl ds _ (fun W hS => by rw [show W = w6.drew from hS]; exact SKR.out) Tryz.underlying36 rfl (by rw [DL.out]; kernel_rfl) ?_) | (refine det_build rfl 268 #[(0, .tmp 49), (1, .tmp 53)] rfl ka (by first | exact BK.out | (go_simp; exact BK.out)) ?_)); go_simp; refine hK _ ?_; clear hK K)
            | (refine det_step (fun K hK => ?_)
               apply Exists.intro
               refine ⟨Or.inl ⟨rfl, fun W hS => ?_⟩, ?_⟩
               · have hz : W = w6.drew := hS; subst hz; have n1 := (show w6.drew.cell? _ = _ from N1.out)
                 go_simp
                 first
                 | exact rfl
                 | exact ⟨rfl, hS⟩
                 | (fail)
               go_simp
               refine hK _ ?_
               clear hK K)
            | (refine det_step (fun K hK => ?_); refine det_no' rfl ?_; go_simp; refine hK _ ?_; clear hK K))
          refine det_nil ?_
          rintro W rfl
          have tokS : True := trivial
          have tokA : True := trivial
          go_wp2_with (have _t := tokS; (with_reducible refine at_bslice rfl ?_); refine bslice_one rfl 114 268 _ rfl appKid (by decide) ka rfl KS.out ?_; clear tokS _t)
          refine ⟨rfl, (Below.refl _ _).drew.alloc (Nat.le_refl _) _, ?_⟩
          go_wp2_with (have _t := tokA; at_builtin; refine app_new appKid rfl _ _ rfl (g2 + 1) v sl _ rfl (owned_drew hO6.out) ka 268 1 rfl KS.out KO.out (by decide) (by have := SL.out; omega) G6.out ?_; intro g7 cap7 w7 hown7 hgr7 hb7 hbg7; have HO7 := Lib.hid hown7; have HB7 := Lib.hid hb7; have GB7 := Lib.hid hbg7; clear hown7 hgr7 hb7 hbg7 tokA _t)
          refine ⟨rfl, ?_⟩
          go_wp2
          have e1 : kidsC (Sp.shk t (k + 1)) = kidsC (Sp.shk t k) ++ ka.toList := by rw [HSK.out, kidsC_snoc, KA.out]
          have e2 : (Sp.shk t (k + 1)).length = sl + 1 := by rw [HSK.out, List.length_append, HSL.out]; rfl
          have hw6 : Below (g2 + 1) w6 w7 := Below.trans (Below.refl _ _).drew HB7.out
          go_roundw
          case rel => exact ⟨k + 1, m2, _, by omega, by go_num, rfl, by have := SZ1.out; have := HM.out; have := HM2.out; omega, (hw6.block g2 (Nat.lt_succ_self _)).trans hX6.out, by rw [e1, e2]; exact HO7.out, hB6.out.from' (below_lower hw6 (Nat.le_succ_of_le GG2.out)), Nat.lt_of_lt_of_le G6.out hw6.size⟩
          case measure => simp [intOf]; omega
      · obtain rfl : k = t.kids.length := by omega
        obtain ⟨Bk, ck, rfl, hKc⟩ := own_read HO.out
        have hmT : m = Sp.sizeT t := by
          have h1 := HM.out
          rw [List.take_length] at h1
          rw [h1, HN0.out, Sp.sizeT_n0]
        have nlen : (Sp.nodeT t).2.length = t.kids.length := by rw [nodeT_kids, List.length_map]
        have IN := Lib.hid (inode_calls t g2 A B C c c' c'' gs _ wr (PRE.out g2 wr HB.out _ HX.out) hl HPV.out hk HNL.out)
        have NS := Lib.hid fun (A2 : Option Addr) (c2 : Nat) (B2 : Option Addr) (c3 : Nat) (W : World) (hv : Vers W A2 t.leaf) (hkk : Kids W B2 (Sp.nodeT t).2) (e : Ext w W) => (show Calls Tryz.prog 219 #[nodeV A2 t.leaf.length c2 B2 t.kids.length c3] W fun e w' => e = .returned (digV (Sp.nsum (Sp.nodeT t))) ∧ Ext W w' from by
          have := nsum_calls (Sp.nodeT t) A2 B2 c2 c3 W (by rw [nodeT_leaf]; exact hv) hkk (KK.out.ext e)
          rwa [nodeT_leaf, nlen] at this)
        have OFF := Lib.hid (own_off HO.out)
        have KS := Lib.hid (show ∀ W W', Ext wr W → Only g2 W W' → Kids W' Bk (Sp.shk t t.kids.length) from fun W W' e on => ⟨(hKc.ext e).only (fun a ha => by have := OFF.out a ha; omega) on, fun y hy => by
          unfold Sp.shk at hy
          obtain ⟨z, hz, rfl⟩ := List.mem_map.1 hy
          rw [List.take_length] at hz
          obtain ⟨u, hu, e2⟩ := Sp.showL_mem _ z hz
          exact ⟨Sp.nsum_len _, by have := HNL.out u hu; rw [e2] at this; exact this⟩⟩)
        have SLN := Lib.hid (show (Sp.shk t t.kids.length).length ≤ 1000000 by unfold Sp.shk; rw [List.length_map, List.take_length]; have := Sp.showL_len t.kids; omega)
        have SN := Lib.hid fun W (hv : Vers W A t.leaf) (hkk : Kids W Bk (Sp.shk t t.kids.length)) => (show Calls Tryz.prog 221 #[.agg #[.slice A t.leaf.length c, .slice Bk (Sp.shk t t.kids.length).length ck]] W fun e w' => ∃ A2 c2 B2 c3, e = .returned (.agg #[.slice A2 (Sp.live t.leaf).length c2, .slice B2 (Sp.shk t t.kids.length).length c3]) ∧ Vers w' A2 (Sp.live t.leaf) ∧ Kids w' B2 (Sp.shk t t.kids.length) ∧ Ext W w' from nseen_calls (t.leaf, Sp.shk t t.kids.length) A Bk c ck W hv hkk hl (Nat.le_trans SLN.out (by decide)))
        obtain ⟨D1, hD1⟩ : ∃ D1, D1 = digC (Sp.nsum (Sp.nodeT t)) := ⟨_, rfl⟩
        have DS1 := Lib.hid (show D1.size = 32 by rw [hD1, digC_size, Sp.nsum_len])
        have DO1 := Lib.hid (show D1.all (·.oneCell') = true by rw [hD1]; exact all_oneCell_toArray (bytes_one _))
        have HD1 := Lib.hid hD1
        obtain ⟨D2, hD2⟩ : ∃ D2, D2 = digC (Sp.nsum (Sp.nodeT (Sp.showT t))) := ⟨_, rfl⟩
        have DS2 := Lib.hid (show D2.size = 32 by rw [hD2, digC_size, Sp.nsum_len])
        have DO2 := Lib.hid (show D2.all (·.oneCell') = true by rw [hD2]; exact all_oneCell_toArray (bytes_one _))
        have HD2 := Lib.hid hD2
        have tokD : True := trivial
        have HMT := Lib.hid hmT
        have tokE : True := trivial
        have tokF : True := trivial
        clear hD1 hD2 hmT hKc
        go_wp2_with fail
        refine IN.out.mono ?_
        rintro e w1 ⟨A2, c2, B2, c3, rfl, hv1, hk1, hb1⟩
        have B1 := Lib.hid (show Ext wr w1 from hb1)
        have NS1 := Lib.hid (NS.out A2 c2 B2 c3 w1 hv1 hk1 (HB.out.trans hb1))
        clear hv1 hk1 hb1
        go_wp2_with fail
        refine NS1.out.mono ?_
        rintro e w3 ⟨rfl, hb3⟩
        have B3 := Lib.hid (show Ext wr w3 from B1.out.trans hb3)
        have X3 := Lib.hid (HX.out.below B3.out)
        rw [show digV (Sp.nsum (Sp.nodeT t)) = .agg (digC (Sp.nsum (Sp.nodeT t))) from rfl, ← HD1.out]
        clear hb3
        go_wp2_with (have _t := tokD; ((with_reducible refine at_store (t := 36) rfl ?_); refine store_blk rfl _ _ _ rfl g2 4 D1 rfl rfl X3.out (by rw [pc_size ZL.out ZL.out, DS1.out]; decide) (by rw [DS1.out]; kernel_rfl) DO1.out (pc_puts4 (by rw [Array.length_toList, DS1.out, ZL.out])) ?_; intro w4 hx4 on4 hs4; have X4 := Lib.hid hx4; have O4 := Lib.hid on4; have S4 := Lib.hid hs4; clear hx4 on4 hs4 tokD _t))
        have E4 := Lib.hid (show Ext w w4 from (HB.out.trans B3.out).from' (O4.out.below GG2.out (HB.out.trans B3.out).size))
        refine (SN.out w4 (HV.out.ext E4.out) (KS.out w3 w4 B3.out O4.out)).mono ?_
        rintro e w5 ⟨A5, c5, B5, c6, rfl, hv5, hk5, hb5⟩
        have BB5 := Lib.hid (show Ext w4 w5 from hb5)
        have V5 := Lib.hid hv5
        have K5 := Lib.hid hk5
        clear hv5 hk5 hb5
        go_wp2_with (have _t := tokE; ((with_reducible refine at_alloc (t := 116) rfl ?_); refine box_new rfl (cs := #[.slice none 0 0, .slice none 0 0]) (t := 116) (by first | (go_simp; done) | (go_simp; rfl)) ?_; intro g6 w6 hg6 hx6 hb6; have H6 := Lib.hid hx6; have B6 := Lib.hid (show Ext w5 w6 from hb6); have GG6 := Lib.hid hg6; have k0 := (hx6.cell 0).trans rfl; have k1 := (hx6.cell 1).trans rfl; have k2 := hx6.frozen 0; have k3 := hx6.frozen 1; clear tokE _t hx6 hb6 hg6))
        obtain ⟨w7, hw7⟩ : ∃ w7, w7 = (w6.setCell ⟨g6, 0, none⟩ (.slice A5 (Sp.live t.leaf).length c5)).setCell ⟨g6, 1, none⟩ (.slice B5 (Sp.shk t t.kids.length).length c6) := ⟨_, rfl⟩
        have X7 := Lib.hid (show isBlk w7 g6 116 #[.slice A5 (Sp.live t.leaf).length c5, .slice B5 (Sp.shk t t.kids.length).length c6] by rw [hw7]; exact (H6.out.put 0 _ rfl).put 1 _ rfl)
        have B7 := Lib.hid (show Ext w5 w7 by rw [hw7]; exact (B6.out.setCell GG6.out _).setCell GG6.out _)
        rw [← hw7]
        clear hw7 k0 k1 k2 k3
        have E7 := Lib.hid (show Ext w w7 from E4.out.trans (BB5.out.trans B7.out))
        have XX7 := Lib.hid (X4.out.below (BB5.out.trans B7.out))
        have NS2 := Lib.hid fun (W : World) (e : Ext w7 W) => (show Calls Tryz.prog 219 #[nodeV A5 (Sp.live t.leaf).length c5 B5 (Sp.shk t t.kids.length).length c6] W fun e w' => e = .returned (.agg D2) ∧ Ext W w' from by
          refine (nsum_calls (Sp.live t.leaf, Sp.shk t t.kids.length) A5 B5 c5 c6 W (V5.out.ext (B7.out.trans e)) (K5.out.ext (B7.out.trans e)) (KK.out.ext (E7.out.trans e))).mono ?_
          rintro e w' ⟨rfl, h⟩
          exact ⟨by rw [HD2.out, Sp.show_node], h⟩)
        have NE := Lib.hid fun (W : World) => nempty_calls (Sp.live t.leaf, Sp.shk t t.kids.length) A5 B5 c5 c6 W
        obtain ⟨bb, hbb⟩ : ∃ bb : Bool, bb = decide ((Sp.live t.leaf, Sp.shk t t.kids.length).1 = [] ∧ (Sp.live t.leaf, Sp.shk t t.kids.length).2 = []) := ⟨_, rfl⟩
        rw [← hbb] at NE
        have HBB := Lib.hid (show (!bb) = decide (Sp.entries (Sp.showT t) ≠ []) by rw [hbb]; exact Sp.shown_dec t)
        clear hbb
        have z7 := X7.out
        have f0 := (z7.cell 0).trans rfl
        have f1 := (z7.cell 1).trans rfl
        have tokL : True := trivial
        have tokM : True := trivial
        go_region_law (first
          | (have _tL := tokL; refine step_call rfl 219 #[nodeV A5 (Sp.live t.leaf).length c5 B5 (Sp.shk t t.kids.length).length c6] (by go_simp) (NS2.out w7.drew (Ext.refl _).drew) ?_; rintro e w8 ⟨rfl, hb8⟩; have B8 := Lib.hid (show Ext w7 w8 from Below.trans (Below.refl _ _).drew hb8); have z8 := X7.out.below B8.out; have f0 := (z8.cell 0).trans rfl; have f1 := (z8.cell 1).trans rfl; clear hb8 tokL _tL z8; refine ⟨_, rfl, ?_⟩)
          | (have _tM := tokM; refine step_call rfl 222 #[nodeV A5 (Sp.live t.leaf).length c5 B5 (Sp.shk t t.kids.length).length c6] (by go_simp) (NE.out w8) ?_; rintro e w9 ⟨rfl, hb9⟩; have B9 := Lib.hid (show Ext w7 w9 from B8.out.trans hb9); have X9 := Lib.hid (XX7.out.below B9.out); have d2s := DS2.out; have hst := store_run (P := Tryz.prog) X9.out 36 D2 (by rw [pc_size (by rw [Array.length_toList, DS1.out]) ZL.out, DS2.out]; decide) DO2.out; have Y9 := Lib.hid (sets_pc (e2 := D2.toList) X9.out (by rw [Array.length_toList, DS1.out]) (by rw [Array.length_toList, DS2.out, ZL.out])); have c68 := (Y9.out.cell 68).trans (pc_get68 (by rw [Array.length_toList, DS1.out]) (by rw [Array.length_toList, DS2.out])); have k68 := Y9.out.frozen 68; clear hb9 tokM _tM; refine ⟨_, rfl, ?_⟩))
        all_goals (
          go_wp2
          go_ret
          have Y10 := Y9.out.put 68 (.bool !bb) (pc_set68 (by rw [Array.length_toList, DS1.out]) (by rw [Array.length_toList, DS2.out]))
          have E9 : Ext w (w9.setCells g2 36 D2.toList) := (E7.out.trans B9.out).from' ((Only.sets g2 _ _ _).below GG2.out (E7.out.trans B9.out).size)
          have E10 : Ext w ((w9.setCells g2 36 D2.toList).setCell ⟨g2, 68, none⟩ (.bool !bb)) := E9.setCell GG2.out _
          have e : pcC A t.leaf.length c B t.kids.length c' C c'' (.int .i64 m) D1.toList D2.toList (.bool !bb) = innerC A c B c' C c'' t := by
            rw [HMT.out, HD1.out, HD2.out, HBB.out]
            rfl
          rw [e] at Y10
          exact ⟨g2, rfl, .mk g2 t A B C c c' c'' gs Y10 (HV.out.ext E10) (HN.out.ext E10) HL.out (HP.out.ext E10) (fun i hi => (HK.out i hi).ext E10), E10⟩)
end Go.Proofs.YtmlfnidckfeebaaGreatDoor
namespace Go.Proofs.YtmlfnidckfeebaaGreatDoor
open Go.RowKit
namespace Sp
abbrev DE := Bs × List Ver
def toP (m : List DE) : List PE := m.map fun e => (split e.1, e.2)
def joinP : List Bs → Bs
  | [] => []
  | [a] => a
  | a :: b :: r => a ++ 47 :: joinP (b :: r)
theorem join_split : ∀ s, joinP (split s) = s
  | [] => rfl
  | c :: r => by
    have ih := join_split r
    unfold split
    split
    · rename_i h
      cases hs : split r with
      | nil => exact absurd hs (split_ne r)
      | cons a t => rw [hs] at ih; rw [joinP, ih, h]; rfl
    · cases hs : split r with
      | nil => exact absurd hs (split_ne r)
      | cons a t =>
        rw [hs] at ih
        cases t with
        | nil => simpa [joinP] using ih
        | cons b t => simpa [joinP] using ih
theorem split_inj {a b : Bs} (h : split a = split b) : a = b := by rw [← join_split a, h, join_split]
theorem cmpP_trans : ∀ (a b c : List Bs), cmpP a b = -1 → cmpP b c = -1 → cmpP a c = -1
  | [], [], _, h, _ => by simp [cmpP] at h
  | [], _ :: _, [], _, h => by simp [cmpP] at h
  | [], _ :: _, _ :: _, _, _ => rfl
  | _ :: _, [], _, h, _ => by simp [cmpP] at h
  | _ :: _, _ :: _, [], _, h => by simp [cmpP] at h
  | x :: a, y :: b, z :: c, h, k => by
    unfold cmpP at h k ⊢
    by_cases h1 : x = y
    · subst h1
      rw [if_pos rfl] at h
      by_cases h2 : x = z
      · rw [if_pos h2] at k ⊢
        exact cmpP_trans a b c h k
      · rw [if_neg h2] at k ⊢
        exact k
    · rw [if_neg h1] at h
      have g1 := (less_cmp x y).2 h
      by_cases h2 : y = z
      · subst h2
        rw [if_neg h1]
        exact h
      · rw [if_neg h2] at k
        have g2 := less_trans g1 ((less_cmp y z).2 k)
        have h3 : x ≠ z := by rintro rfl; rw [less_irr] at g2; cases g2
        rw [if_neg h3]
        exact (less_cmp x z).1 g2
theorem cmpP_self : ∀ a : List Bs, cmpP a a = 0
  | [] => rfl
  | x :: a => by rw [cmpP, if_pos rfl, cmpP_self a]
theorem cmpP_zero : ∀ {a b : List Bs}, cmpP a b = 0 → a = b
  | [], [], _ => rfl
  | [], _ :: _, h => by simp [cmpP] at h
  | _ :: _, [], h => by simp [cmpP] at h
  | x :: a, y :: b, h => by
    unfold cmpP at h
    by_cases h1 : x = y
    · rw [if_pos h1] at h; rw [h1, cmpP_zero h]
    · rw [if_neg h1] at h; exact absurd ((cmpB_eq x y).1 h) h1
def rgo (p : Bs) (l : List Ver) : Bool → List DE → List DE
  | put, [] => if put then [] else [(p, l)]
  | put, e :: r => (if put = false ∧ compare p e.1 ≤ 0 then [(p, l)] else []) ++ ((if e.1 = p then [] else [e]) ++ rgo p l (put || decide (compare p e.1 ≤ 0)) r)
def rset (m : List DE) (p : Bs) (l : List Ver) : List DE := rgo p l (decide (l = [])) m
def RiseE (E : List PE) : Prop := E.Pairwise fun a b => cmpP a.1 b.1 = -1
theorem rgo_true (p : Bs) (l : List Ver) : ∀ m : List DE, (∀ e ∈ m, e.1 ≠ p) → rgo p l true m = m
  | [], _ => rfl
  | e :: r, h => by
    rw [rgo, if_neg (by simp), if_neg (h e (List.mem_cons_self ..)), Bool.true_or, rgo_true p l r fun x hx => h x (List.mem_cons_of_mem _ hx)]
    rfl
theorem rgo_setE (p : Bs) (l : List Ver) : ∀ m : List DE, RiseE (toP m) → toP (rset m p l) = setE (toP m) (split p) l
  | [], _ => by
    unfold rset
    by_cases hl : l = [] <;> simp [rgo, setE, toP, hl]
  | e :: r, h => by
    have hr := List.pairwise_cons.1 h
    have ih := rgo_setE p l r hr.2
    have low : ∀ x ∈ r, cmpP (split e.1) (split x.1) = -1 := fun x hx => hr.1 (split x.1, x.2) (List.mem_map_of_mem hx)
    unfold rset at ih ⊢
    rw [rgo, show toP (e :: r) = (split e.1, e.2) :: toP r from rfl, setE]
    by_cases h1 : e.1 = p
    · have h2 : split e.1 = split p := by rw [h1]
      have ne : ∀ x ∈ r, x.1 ≠ p := fun x hx hp => by
        have := low x hx
        rw [h2, hp, cmpP_self] at this; cases this
      have c0 : compare p e.1 ≤ 0 := by unfold compare; rw [h2, cmpP_self]; exact Int.le_refl _
      rw [if_pos h1, if_pos h2]
      simp only [c0, and_true, decide_true, Bool.or_true, rgo_true p l r ne]
      by_cases hl : l = [] <;> simp [hl, toP]
    · have h2 : ¬ split e.1 = split p := fun hh => h1 (split_inj hh)
      rw [if_neg h1, if_neg h2]
      by_cases h3 : cmpP (split p) (split e.1) < 0
      · have h4 : cmpP (split p) (split e.1) = -1 := by rcases cmpP_range (split p) (split e.1) with h | h | h <;> omega
        have ne : ∀ x ∈ r, x.1 ≠ p := fun x hx hp => by
          have := cmpP_trans _ _ _ h4 (low x hx)
          rw [hp, cmpP_self] at this; cases this
        have c0 : compare p e.1 ≤ 0 := by unfold compare; omega
        rw [if_pos h3]
        simp only [c0, and_true, decide_true, Bool.or_true, rgo_true p l r ne]
        by_cases hl : l = [] <;> simp [hl, toP]
      · have c0 : ¬ compare p e.1 ≤ 0 := by
          unfold compare
          intro hc
          have : cmpP (split p) (split e.1) = 0 := by omega
          exact h2 (cmpP_zero this).symm
        rw [if_neg h3]
        simp only [c0, and_false, decide_false, Bool.or_false, if_false, List.nil_append]
        rw [← ih]
        rfl
theorem head_less {m n : Bs} (h : Op.bytesLess m n = true) (a b : List Bs) : cmpP (m :: a) (n :: b) = -1 := by
  have : m ≠ n := by rintro rfl; rw [less_irr] at h; cases h
  rw [cmpP, if_neg this]
  exact (less_cmp m n).1 h
mutual
theorem entries_rise : ∀ t, Ok t → RiseE (entries t)
  | .mk leaf kids, h => by
    obtain ⟨_, hr, hk⟩ := h
    have ih := entriesL_rise kids hr hk
    unfold entries RiseE
    by_cases hl : leaf = []
    · rw [if_pos hl, List.nil_append]; exact ih
    · rw [if_neg hl, List.singleton_append, List.pairwise_cons]
      refine ⟨fun e he => ?_, ih⟩
      obtain ⟨n, q, h1, _⟩ := entriesL_ne kids e he
      rw [h1]; rfl
theorem entriesL_rise : ∀ k, Rise k → OkL k → RiseE (entriesL k)
  | [], _, _ => List.Pairwise.nil
  | (n, t) :: r, hr, hk => by
    have hr2 := List.pairwise_cons.1 hr
    have i1 := entries_rise t hk.2.2.1
    have i2 := entriesL_rise r hr2.2 hk.2.2.2
    unfold entriesL RiseE
    rw [List.pairwise_append]
    refine ⟨List.pairwise_map.2 (i1.imp fun {a b} hab => ?_), i2, ?_⟩
    · show cmpP (n :: a.1) (n :: b.1) = -1
      rw [cmpP, if_pos rfl]; exact hab
    · intro a ha b hb
      obtain ⟨c, _, rfl⟩ := List.mem_map.1 ha
      obtain ⟨x, q, h1, h2⟩ := entriesL_ne r b hb
      rw [h1]
      exact head_less (hr2.1 x h2) _ _
end
def stripP : List Bs → List Bs → Option (List Bs)
  | [], q => some q
  | _ :: _, [] => none
  | n :: d, m :: q => if m = n then stripP d q else none
def subs : List PE → List Bs → List PE
  | E, [] => E
  | E, n :: d => subs (sub1 E n) d
theorem subs_nil : ∀ d, subs [] d = []
  | [] => rfl
  | _ :: d => subs_nil d
theorem subs_strip : ∀ (d : List Bs) (E : List PE), subs E d = E.filterMap fun e => (stripP d e.1).map fun q => (q, e.2)
  | [], E => by simp [subs, stripP]
  | n :: d, E => by
    rw [subs, subs_strip d, sub1, List.filterMap_filterMap]
    congr 1
    funext e
    rcases e with ⟨q, l⟩
    cases q with
    | nil => rfl
    | cons m q =>
      by_cases h : m = n <;> simp [stripP, h]
theorem stripP_nil : ∀ (d q : List Bs), stripP d q = some [] ↔ q = d
  | [], q => by simp [stripP]
  | n :: d, [] => by simp [stripP]
  | n :: d, m :: q => by
    by_cases h : m = n
    · simp [stripP, h, stripP_nil d q]
    · simp [stripP, h]
theorem stripP_some : ∀ (d q r : List Bs), stripP d q = some r ↔ q = d ++ r
  | [], q, r => by simp [stripP]
  | n :: d, [], r => by simp [stripP]
  | n :: d, m :: q, r => by
    by_cases h : m = n
    · simp [stripP, h, stripP_some d q r]
    · simp [stripP, h]
def rget : List DE → Bs → List Ver
  | [], _ => []
  | e :: r, p => if e.1 = p then e.2 else rget r p
def under (p d : Bs) : Bool := decide (parts p ≠ []) && (decide (d = []) || decide (parts d ≠ [])) && decide ((parts d).length < (parts p).length) && decide ((parts p).take (parts d).length = parts d)
def rnames (d : Bs) : List Bs → List DE → List Bs
  | out, [] => out
  | out, e :: r => if under e.1 d then (let s := (parts e.1).getD (parts d).length []; rnames d (if out.getLast? = some s then out else out ++ [s]) r) else rnames d out r
def Paths (m : List DE) : Prop := ∀ e ∈ m, check e.1 = 0
theorem check_parts {p : Bs} (h : check p = 0) : parts p = split p ∧ p.length ≤ 51 ∧ (split p).length ≤ 4 ∧ (split p).all name = true := by
  unfold check at h
  split at h
  · omega
  · rename_i h1
    split at h
    · omega
    · rename_i h2
      unfold parts at h2 ⊢
      rw [if_neg h1] at h2 ⊢
      split at h2
      · exact absurd rfl h2
      · rename_i h3
        rw [if_neg h3]
        split at h2
        · rename_i h4
          exact ⟨if_pos h4, by omega, by omega, h4⟩
        · exact absurd rfl h2
theorem check_nil : check [] ≠ 0 := by decide
def Dir (d : Bs) : Prop := d = [] ∨ check d = 0
theorem parts_empty : parts [] = [] := by decide
theorem dir_parts {d : Bs} (h : Dir d) : (decide (d = []) || decide (parts d ≠ [])) = true := by
  rcases h with rfl | h
  · simp
  · have := (check_parts h).1
    have h2 := split_ne d
    rw [← this] at h2
    simp [h2]
theorem get_subs (m : List DE) (hm : Paths m) (d : Bs) (hd : Dir d) : rget m d = get0 (subs (toP m) (parts d)) := by
  induction m with
  | nil => rw [show toP [] = [] from rfl, subs_nil]; rfl
  | cons e r ih =>
    have ih := ih fun x hx => hm x (List.mem_cons_of_mem _ hx)
    have he := check_parts (hm e (List.mem_cons_self ..))
    rw [subs_strip] at ih ⊢
    rw [show toP (e :: r) = (split e.1, e.2) :: toP r from rfl, rget]
    by_cases h : e.1 = d
    · have hs : stripP (parts d) (split e.1) = some [] := by rw [stripP_nil, ← he.1, h]
      rw [if_pos h, List.filterMap_cons, hs]
      rfl
    · rw [if_neg h, ih, List.filterMap_cons]
      cases hs : stripP (parts d) (split e.1) with
      | none => rfl
      | some q =>
        have hq : q ≠ [] := by
          rintro rfl
          rw [stripP_nil] at hs
          rcases hd with rfl | hd
          · rw [parts_empty] at hs; exact split_ne _ hs
          · rw [(check_parts hd).1] at hs; exact h (split_inj hs)
        show _ = get0 ((q, e.2) :: _)
        rw [get0, if_neg hq]
theorem under_strip {p d : Bs} (hp : check p = 0) (hd : Dir d) : under p d = true ↔ ∃ n q, stripP (parts d) (split p) = some (n :: q) := by
  have h1 := (check_parts hp).1
  have h2 := split_ne p
  unfold under
  rw [dir_parts hd, h1]
  simp only [ne_eq, h2, not_false_eq_true, decide_true, Bool.true_and, Bool.and_eq_true, decide_eq_true_eq, stripP_some]
  constructor
  · rintro ⟨h3, h4⟩
    have h5 := List.take_append_drop (parts d).length (split p)
    rw [h4] at h5
    cases hx : (split p).drop (parts d).length with
    | nil => rw [List.drop_eq_nil_iff] at hx; omega
    | cons n q => exact ⟨n, q, by rw [← hx, h5]⟩
  · rintro ⟨n, q, h⟩
    rw [h]
    exact ⟨by simp, by simp⟩
theorem names_subs (d : Bs) (hd : Dir d) : ∀ (m : List DE), Paths m → ∀ out, rnames d out m = namesE out (subs (toP m) (parts d))
  | [], _, out => by rw [show toP [] = [] from rfl, subs_nil]; rfl
  | e :: r, hm, out => by
    have he := hm e (List.mem_cons_self ..)
    have ih := names_subs d hd r fun x hx => hm x (List.mem_cons_of_mem _ hx)
    have hu := under_strip he hd
    simp only [subs_strip] at ih ⊢
    rw [show toP (e :: r) = (split e.1, e.2) :: toP r from rfl, rnames, List.filterMap_cons]
    by_cases h : under e.1 d = true
    · obtain ⟨n, q, hs⟩ := hu.1 h
      rw [if_pos h, hs]
      have hg : (parts e.1).getD (parts d).length [] = n := by
        rw [(check_parts he).1, (stripP_some _ _ _).1 hs]
        simp
      show rnames d (if out.getLast? = some ((parts e.1).getD (parts d).length []) then out else out ++ [(parts e.1).getD (parts d).length []]) r = namesE out ((n :: q, e.2) :: _)
      rw [hg, ih, namesE]
    · rw [if_neg h, ih]
      cases hs : stripP (parts d) (split e.1) with
      | none => rfl
      | some q =>
        cases q with
        | nil => rfl
        | cons n q => exact absurd (hu.2 ⟨n, q, hs⟩) h
def findT : T → List Bs → Option T
  | t, [] => some t
  | t, n :: d => (kid t.kids n).bind fun s => findT s d
theorem findT_subs : ∀ (d : List Bs) (t : T), Ok t → subs (entries t) d = entriesO (findT t d) ∧ ∀ s, findT t d = some s → Ok s
  | [], t, h => ⟨rfl, fun s hs => by cases hs; exact h⟩
  | n :: d, .mk leaf k, h => by
    have h2 := h
    obtain ⟨_, hr, hk⟩ := h2
    rw [subs, sub1_entries n leaf k hr, findT]
    show subs (entriesO (kid k n)) d = entriesO ((kid k n).bind _) ∧ ∀ s, (kid k n).bind _ = some s → _
    cases hs : kid k n with
    | none => exact ⟨subs_nil d, fun s h => by cases h⟩
    | some s => exact findT_subs d s (kid_ok k n s hk hs)
theorem kid_ne : ∀ (k : List (Bs × T)) (p : Bs) (t : T), OkL k → kid k p = some t → entries t ≠ []
  | [], _, _, _, h => by cases h
  | (m, s) :: r, p, t, hk, h => by
    rw [kid] at h
    split at h
    · cases h; exact hk.2.1
    · exact kid_ne r p t hk.2.2.2 h
end Sp
end Go.Proofs.YtmlfnidckfeebaaGreatDoor
namespace Go.Proofs.YtmlfnidckfeebaaGreatDoor
open Go.RowKit Go.Shelf
attribute [local go_sem] yUpon
namespace Sp
def Fit (t : T) : Prop := t.leaf.length ≤ 1000000 ∧ (∀ v ∈ t.leaf, v.past.length ≤ 1000000) ∧ t.kids.length ≤ 1000000 ∧ (∀ x ∈ t.kids, x.1.length ≤ 1000000) ∧ sizeT t ≤ 1000000000
theorem kids_size : ∀ (k : List (Bs × T)), OkL k → k.length ≤ sizeL k
  | [], _ => Nat.le_refl _
  | (n, t) :: r, h => by
    have ih := kids_size r h.2.2.2
    have h1 : (entries t).length ≠ 0 := fun e => h.2.1 (List.eq_nil_of_length_eq_zero e)
    rw [← sizeT_len] at h1
    rw [sizeL, List.length_cons]
    omega
theorem name_len {n : Bs} (h : name n = true) : n.length ≤ 12 := by
  unfold name at h
  simp only [Bool.and_eq_true, decide_eq_true_eq] at h
  exact h.1.1.1.2
theorem kids_names : ∀ (k : List (Bs × T)), OkL k → ∀ x ∈ k, name x.1 = true
  | [], _, x, h => by cases h
  | (n, t) :: r, hk, x, h => by
    rcases List.mem_cons.1 h with rfl | h
    · exact hk.1
    · exact kids_names r hk.2.2.2 x h
theorem leaf_fit {l : List Ver} (h : l ≠ [] → leaf l = 0) : l.length ≤ 64 ∧ ∀ v ∈ l, v.past.length ≤ 64 := by
  by_cases h0 : l = []
  · subst h0
    exact ⟨Nat.zero_le _, fun v hv => by cases hv⟩
  · have h1 := h h0
    exact ⟨(leaf_ok h1).1, fun v hv => vcheck_len (vercheck_ok (lgo_vers l none (leaf_ok h1).2.1 v hv)).2.1⟩
theorem ok_fit : ∀ {t : T}, Ok t → sizeT t ≤ 1000000 → Fit t
  | .mk leaf kids, h, hs => by
    obtain ⟨h1, _, h3⟩ := h
    have a := leaf_fit h1
    have b := kids_size kids h3
    have c := sizeT_n0 (.mk leaf kids)
    refine ⟨Nat.le_trans a.1 (by decide), fun v hv => Nat.le_trans (a.2 v hv) (by decide), ?_, fun x hx => Nat.le_trans (name_len (kids_names kids h3 x hx)) (by decide), Nat.le_trans hs (by decide)⟩
    show kids.length ≤ _
    change _ = _ + sizeL kids at c
    omega
theorem setE_len (ps : List Bs) (l : List Ver) : ∀ E : List PE, (setE E ps l).length ≤ E.length + 1
  | [] => by rw [setE]; split <;> simp
  | (q, m) :: r => by
    have ih := setE_len ps l r
    rw [setE]
    repeat' split
    all_goals simp
    all_goals omega
end Sp
structure PartsAt (w : World) (t : Sp.T) (A B C : Option Addr) (gs : List Nat) : Prop where
  V : Vers w A t.leaf
  N : Nams w B (t.kids.map (·.1))
  L : gs.length = t.kids.length
  P : Cells w C (ptrsC gs)
  K : ∀ i (h : i < t.kids.length), InnerAt w (gs.getD i 0) (t.kids[i]).2
theorem PartsAt.ext {w w' : World} (e : Ext w w') {t : Sp.T} {A B C : Option Addr} {gs : List Nat} (h : PartsAt w t A B C gs) : PartsAt w' t A B C gs := ⟨h.V.ext e, h.N.ext e, h.L, h.P.ext e, fun i hi => (h.K i hi).ext e⟩
theorem PreAt.parts {w : World} {g : Nat} {t : Sp.T} {A B C : Option Addr} {c c' c'' : Nat} {gs : List Nat} {arr : Array Value} (h : PreAt w g t A B C c c' c'' gs arr) : PartsAt w t A B C gs := ⟨h.V, h.N, h.L, h.P, h.K⟩
theorem PartsAt.nil (w : World) : PartsAt w .nil none none none [] := ⟨⟨[], rfl, Cells.nil _ _, fun x h => by cases h⟩, Cells.nil _ _, rfl, Cells.nil _ _, fun i h => by cases h⟩
set_option maxRecDepth 100000 in
set_option maxHeartbeats 4000000 in
theorem kept_calls (t : Sp.T) (A B C : Option Addr) (c c' c'' : Nat) (gs : List Nat) (w : World) (h : PartsAt w t A B C gs) (hf : Sp.Fit t) (K : KeysAt w 2) :
    Calls Tryz.prog 171 #[.slice A t.leaf.length c, .slice B t.kids.length c', .slice C t.kids.length c''] w fun e w' => ∃ v, e = .returned v ∧ OptAt w' v (Sp.kept t.leaf t.kids) ∧ Ext w w' := by
  have MC := Lib.hid (made_calls t A B C c c' c'' gs w h.V h.N h.L h.P h.K hf.1 hf.2.1 hf.2.2.1 hf.2.2.2.1 hf.2.2.2.2 K)
  have et : Sp.T.mk t.leaf t.kids = t := by cases t; rfl
  clear h hf K
  go_enter Tryz.func171, Tryz.ntmps171
  by_cases h1 : t.leaf.length = 0
  · by_cases h2 : t.kids.length = 0
    · have hk : Sp.kept t.leaf t.kids = none := if_pos ⟨List.eq_nil_of_length_eq_zero h1, List.eq_nil_of_length_eq_zero h2⟩
      have HK := Lib.hid hk
      clear hk et MC
      go_wp2
      go_ret
      exact ⟨_, rfl, .inl ⟨HK.out, rfl⟩, Ext.refl _⟩
    · have hk : Sp.kept t.leaf t.kids = some t := by rw [Sp.kept, if_neg (fun h => h2 (by rw [h.2]; rfl)), et]
      have HK := Lib.hid hk
      have e2 : ((t.kids.length : Int) == 0) = false := by rw [beq_eq_false_iff_ne]; omega
      rw [h1] at MC
      clear hk et
      go_wp2_with fail
      refine MC.out.mono ?_
      rintro e w1 ⟨g, rfl, hi, hb⟩
      go_wp2
      go_ret
      exact ⟨_, rfl, .inr ⟨g, t, HK.out, rfl, hi⟩, hb⟩
  · have hk : Sp.kept t.leaf t.kids = some t := by rw [Sp.kept, if_neg (fun h => h1 (by rw [h.1]; rfl)), et]
    have HK := Lib.hid hk
    have e2 : ((t.leaf.length : Int) == 0) = false := by rw [beq_eq_false_iff_ne]; omega
    clear hk et
    go_wp2_with fail
    refine MC.out.mono ?_
    rintro e w1 ⟨g, rfl, hi, hb⟩
    go_wp2
    go_ret
    exact ⟨_, rfl, .inr ⟨g, t, HK.out, rfl, hi⟩, hb⟩
def TreeAt (w : World) (v : Value) (o : Option Sp.T) : Prop := (o = none ∧ v = .pointer none) ∨ ∃ g p, v = .pointer (some ⟨g, 0, none⟩) ∧ isBlk w g 153 #[p] ∧ OptAt w p o
theorem TreeAt.ext {w w' : World} (e : Ext w w') {v : Value} {o : Option Sp.T} (h : TreeAt w v o) : TreeAt w' v o := by
  rcases h with h | ⟨g, p, h1, h2, h3⟩
  · exact .inl h
  · exact .inr ⟨g, p, h1, h2.below e, h3.ext e⟩
set_option maxRecDepth 100000 in
set_option maxHeartbeats 4000000 in
theorem root_calls (o : Option Sp.T) (v : Value) (w : World) (h : TreeAt w v o) (K : KeysAt w 2) :
    Calls Tryz.prog 79 #[v] w fun e w' => ∃ g, e = .returned (.pointer (some ⟨g, 0, none⟩)) ∧ InnerAt w' g (o.getD .nil) ∧ Ext w w' := by
  have p0 := PartsAt.nil w
  have MC := Lib.hid (show Calls Tryz.prog 146 #[.slice none 0 0, .slice none 0 0, .slice none 0 0] w fun e w' => ∃ g, e = .returned (.pointer (some ⟨g, 0, none⟩)) ∧ InnerAt w' g .nil ∧ Ext w w' from
    made_calls .nil none none none 0 0 0 [] w p0.V p0.N p0.L p0.P p0.K (by decide) (fun v h => by cases h) (by decide) (fun v h => by cases h) (by decide) K)
  clear p0 K
  rcases h with ⟨rfl, rfl⟩ | ⟨g, p, rfl, hx, ⟨rfl, rfl⟩ | ⟨g1, t, rfl, rfl, hi⟩⟩
  · go_enter Tryz.func79, Tryz.ntmps79
    go_wp2_with fail
    refine MC.out.mono ?_
    rintro e w1 ⟨g, rfl, hi, hb⟩
    go_wp2
    go_ret
    exact ⟨g, rfl, hi, hb⟩
  · have f0 := (hx.cell 0).trans rfl
    go_enter Tryz.func79, Tryz.ntmps79
    go_wp2_with fail
    refine MC.out.mono ?_
    rintro e w1 ⟨g, rfl, hi, hb⟩
    go_wp2
    go_ret
    exact ⟨g, rfl, hi, hb⟩
  · have f0 := (hx.cell 0).trans rfl
    clear MC
    go_enter Tryz.func79, Tryz.ntmps79
    go_wp2
    go_ret
    exact ⟨g1, rfl, hi, Ext.refl _⟩
end Go.Proofs.YtmlfnidckfeebaaGreatDoor
