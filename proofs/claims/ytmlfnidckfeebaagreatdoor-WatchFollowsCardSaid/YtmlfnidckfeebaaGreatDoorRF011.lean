/- Walks: the document's digest of a text: the walk. Walks: nodes. Walks: the document's nodes. -/
import Derived.Test.YtmlfnidckfeebaaGreatDoorRF010
namespace Go.Proofs.YtmlfnidckfeebaaGreatDoor
open Go.RowKit
attribute [local go_sem] yUpon w_add w_xor w_and w_or w_wrap w_shl8 w_shr3 w_shr10
set_option maxRecDepth 100000 in
set_option maxHeartbeats 8000000 in
theorem rsha_calls (l : Sp.Bs) (w : World) (hl : l.length ≤ 4000000000) (K : KeysAt w 0) :
    Calls Tryz.prog 147 #[.string (strOf l)] w fun e w' => e = .returned (digV (Sp.sha l)) ∧ Ext w w' := by
  have hds := digC_size (Sp.sha l)
  have hsl := Sp.sha_len l
  obtain ⟨arr, ha⟩ : ∃ arr, arr = digC (Sp.sha l) := ⟨_, rfl⟩
  have HA := Lib.hid ha
  rw [← ha] at hds
  have w1 : arr.all (·.oneCell') = true := by rw [ha]; exact all_oneCell_toArray (bytes_one _)
  clear ha
  have tok2 : True := trivial
  rw [show digV (Sp.sha l) = .agg (digC (Sp.sha l)) from rfl, ← HA.out]
  go_enter Tryz.func147, Tryz.ntmps147
  go_wp2_with (have _t2 := tok2; ((with_reducible refine at_alloc (t := 36) rfl ?_); refine box_new rfl (cs := zero32) (t := 36) (by first | (go_simp; done) | (go_simp; rfl)) ?_; intro g2 w2 hg2 hx2 hb2; have H2 := Lib.hid hx2; have B2 := Lib.hid hb2; have GG2 := Lib.hid hg2; clear tok2 _t2 hx2 hb2 hg2))
  refine (rpad_calls l _ hl).mono ?_
  rintro e W0 ⟨A, cap, rfl, hp, hb⟩
  obtain ⟨g3, hg3⟩ : ∃ g3, g3 = w2.heap.size := ⟨_, rfl⟩
  have X3 := (box_at w2 #[wordV 1779033703, wordV 3144134277, wordV 1013904242, wordV 2773480762, wordV 1359893119, wordV 2600822924, wordV 528734635, wordV 1541459225] 272).below hb
  rw [← hg3] at X3 ⊢
  have E0 := Lib.hid (show Ext w W0 from (Ext.trans B2.out (Ext.alloc _ _)).trans hb)
  have H20 := Lib.hid (H2.out.below ((Ext.alloc _ _).trans hb))
  have N23 := Lib.hid (show g2 ≠ g3 by have := H2.out.lt; omega)
  have G3 := Lib.hid (show w.heap.size ≤ g3 by have := B2.out.size; omega)
  have L3 := Lib.hid (show g3 < W0.heap.size from X3.lt)
  have AB := Lib.hid (show ∀ a, A = some a → a.block ≠ g3 by
    intro a ha
    obtain ⟨_, g, c, cur, fz, he, hbg, _⟩ := hp
    cases he; cases ha
    rw [World.size_alloc] at hbg
    show g ≠ g3
    omega)
  have PC := Lib.hid (show Cells W0 A ((Sp.pad l).map byteV) by
    obtain ⟨A9, c9, he, _, _, hc, _⟩ := hp.read
    cases he
    exact hc)
  have XH := Lib.hid (show isBlk W0 g3 272 (wordsC (Sp.mixN 0 Sp.start (Sp.pad l))) from X3)
  have SH := Lib.hid (show Sp.sha l = Sp.digest (Sp.mixN ((Sp.pad l).length / 64) Sp.start (Sp.pad l)) from rfl)
  have PL := Lib.hid (Sp.pad_len l)
  have pmax : (Sp.pad l).length ≤ 4000000200 := by
    have := Sp.padding_len l.length l.length
    unfold Sp.pad; rw [List.length_append, this]; omega
  obtain ⟨p, hpp⟩ : ∃ p, p = Sp.pad l := ⟨_, rfl⟩
  rw [← hpp] at SH PL XH PC pmax ⊢
  clear hpp hp hb X3 hg3
  obtain ⟨L, hL⟩ : ∃ L, L = p.length := ⟨_, rfl⟩
  rw [← hL] at PL pmax SH ⊢
  have HL := Lib.hid hL
  clear hL
  go_wp2_with fail
  go_loopw [5] (fun v5 wr => ∃ m a : Nat, 64 * m ≤ L ∧ a = 64 * m ∧ v5 = .int .i64 a ∧ isBlk wr g3 272 (wordsC (Sp.mixN m Sp.start p)) ∧ Only g3 W0 wr) (fun v5 _ => L - (intOf v5).toNat)
  case atStart => exact ⟨0, 0, by omega, rfl, rfl, XH.out, Only.refl _ _⟩
  case round =>
    obtain ⟨m, a, hm, ham, rfl, hx, ho⟩ := hrel
    by_cases hlt : a < L
    · have hm1 : 64 * m + 64 ≤ L := by have := PL.out; omega
      obtain ⟨blk, hblk⟩ : ∃ blk, blk = (p.drop (64 * m)).take 64 := ⟨_, rfl⟩
      obtain ⟨wo, hwo⟩ : ∃ wo, wo = wr := ⟨_, rfl⟩
      rw [← hwo] at hx ho ⊢
      clear hwo
      have HBK := Lib.hid hblk
      have HAM := Lib.hid ham
      have HX := Lib.hid hx
      have HO := Lib.hid ho
      have hm1' := Lib.hid hm1
      have abig : a ≤ 4000000200 := by omega
      have tok6 : True := trivial
      have tok7 : True := trivial
      clear hblk ham hx ho hm hm1
      go_wp2_with (first
        | (have _t6 := tok6; ((with_reducible refine at_alloc (t := 274) rfl ?_); refine box_new rfl (cs := zero64) (t := 274) (by first | (go_simp; done) | (go_simp; rfl)) ?_; intro g6 w6 hg6 hx6 hb6; have Y6 := Lib.hid hx6; have C6 := Lib.hid hb6; have G6 := Lib.hid hg6; clear tok6 _t6 hx6 hb6 hg6))
        | (have _t7 := tok7; ((with_reducible refine at_store (t := 274) rfl ?_); refine wpList_store_row rfl _ _ _ rfl g6 zero64 rfl rfl 274 _ Y6.out (by kernel_rfl) (by kernel_rfl) (wordsC_one _) ?_; clear tok7 _t7)))
      obtain ⟨w7, hw7⟩ : ∃ w7, w7 = w6.setRow g6 zero64 := ⟨_, rfl⟩
      rw [← hw7]
      have B6 := Lib.hid (show Ext wo w7 by rw [hw7]; exact below_setRow C6.out G6.out _)
      have X6 := Lib.hid (show isBlk w7 g6 274 zero64 by rw [hw7]; exact setRow_heap _ _ _ _ _ _ Y6.out)
      clear hw7
      have P6 := Lib.hid ((PC.out.only AB.out HO.out).ext B6.out)
      obtain ⟨ga, oa, hA, _⟩ := P6.out (by intro e; have h0 := HL.out; rw [List.map_eq_nil_iff] at e; rw [e] at h0; simp at h0; omega)
      subst hA
      have NA := Lib.hid (show ga ≠ g6 by
        obtain ⟨g, o, hA, hc⟩ := (PC.out.only AB.out HO.out) (by intro e; have h0 := HL.out; rw [List.map_eq_nil_iff] at e; rw [e] at h0; simp at h0; omega)
        cases hA
        have h0 : 0 < p.length := by have := HL.out; omega
        have h1 : (p.map byteV)[0]? = some (byteV p[0]) := by simp [h0]
        have := cell_lt (hc 0 _ h1)
        have := G6.out
        omega)
      have BL := Lib.hid (show blk.length = 64 by rw [HBK.out, List.length_take, List.length_drop]; have := hm1'.out; have := HL.out; omega)
      go_loopw [7] (fun v7 wr => ∃ k : Nat, k ≤ 16 ∧ v7 = .int .i64 k ∧ isBlk wr g6 274 (wordsC (Sp.first blk k ++ List.replicate (64 - k) 0)) ∧ Only g6 w7 wr) (fun v7 _ => 16 - (intOf v7).toNat)
      case atStart => exact ⟨0, by decide, rfl, X6.out, Only.refl _ _⟩
      case round =>
        obtain ⟨i, hi, rfl, hx, ho⟩ := hrel
        by_cases hlt16 : i < 16
        · have ZX := Lib.hid (show isBlk wr g6 274 (wordsC (Sp.first blk i ++ part4 blk i 0 :: List.replicate (63 - i) 0)) by
            rw [show (part4 blk i 0 :: List.replicate (63 - i) 0) = List.replicate (64 - i) 0 by
              rw [show 64 - i = (63 - i) + 1 by omega, List.replicate_succ]; rfl]
            exact hx)
          have ZO := Lib.hid ho
          have t16 : (i : Int) < 16 := by omega
          clear hx ho
          go_wp2_with fail
          go_loopw [8] (fun v8 wr => ∃ k : Nat, k ≤ 4 ∧ v8 = .int .i64 k ∧ isBlk wr g6 274 (wordsC (Sp.first blk i ++ part4 blk i k :: List.replicate (63 - i) 0)) ∧ Only g6 w7 wr) (fun v8 _ => 4 - (intOf v8).toNat)
          case atStart => exact ⟨0, by decide, rfl, ZX.out, ZO.out⟩
          case round =>
            obtain ⟨k, hk, rfl, hx, ho⟩ := hrel
            by_cases hlt4 : k < 4
            · obtain ⟨s1, hs1⟩ : ∃ s1, s1 = 4 * i := ⟨_, rfl⟩
              obtain ⟨s2, hs2⟩ : ∃ s2, s2 = a + s1 := ⟨_, rfl⟩
              obtain ⟨q, hq⟩ : ∃ q, q = s2 + k := ⟨_, rfl⟩
              have q1 : IntKind.i64.wrap (4 * (i : Int)) = (s1 : Int) := by rw [IntWalk.i64_in _ (by omega)]; omega
              have q2 : IntKind.i64.wrap ((a : Int) + (s1 : Int)) = (s2 : Int) := by rw [IntWalk.i64_in _ (by omega)]; omega
              have q3 : IntKind.i64.wrap ((s2 : Int) + (k : Int)) = (q : Int) := by rw [IntWalk.i64_in _ (by omega)]; omega
              have hqL : q < L := by have := hm1'.out; have := HAM.out; omega
              have b1 : (q : Int) < (L : Int) := by omega
              have b2 : (i : Int) < 64 := by omega
              have hPW := P6.out.only (fun a ha => by cases ha; exact NA.out) ho
              obtain ⟨cx, hcx, cc⟩ := byte_cell hPW q (by have := HL.out; omega)
              have PS := Lib.hid (show part4 blk i (k + 1) = part4 blk i k <<< 8 + cx by
                rw [hcx]
                show wstep (part4 blk i k) (blk.getD (4 * i + k) 0) = _
                unfold wstep
                rw [HBK.out, be_take p m i k hlt4 hlt16 (by have := hm1'.out; have := HL.out; omega), hq, hs2, hs1, HAM.out, Nat.add_assoc])
              have fl := Sp.first_len blk i
              have kx := (hx.cell i).trans (wordsC_get _ i (by simp [fl]))
              rw [show (Sp.first blk i ++ part4 blk i k :: List.replicate (63 - i) 0).getD i 0 = part4 blk i k by
                rw [List.getD_eq_getElem?_getD, List.getElem?_append_right (by omega), fl, Nat.sub_self]; rfl] at kx
              have st := set_mid (Sp.first blk i) (part4 blk i (k + 1)) (part4 blk i k) (List.replicate (63 - i) 0)
              rw [fl] at st
              obtain ⟨x, hxx⟩ : ∃ x, x = part4 blk i k := ⟨_, rfl⟩
              rw [← hxx] at kx PS
              have ST := Lib.hid st
              have HX' := Lib.hid hx
              have HO' := Lib.hid ho
              have KX := Lib.hid kx
              have CC := Lib.hid cc
              clear hcx hx ho kx st hPW cc hq hs2 hs1 hxx fl
              go_wp2_with fail
              refine wp_region_det_tail (fun W => Ext wr W) 16 (by kernel_rfl) (by kernel_rfl) (Ext.refl _).drew ?_
              simp only [List.take_succ_cons, List.take_zero, List.drop_succ_cons, List.drop_zero]
              repeat (first
                | (refine det_step (fun K hK => ?_)
                   apply Exists.intro
                   refine ⟨Or.inl ⟨rfl, fun W hS => ?_⟩, ?_⟩
                   · have hz : Ext wr W := hS; have f0 := hz.cell KX.out; have f1 := hz.cell CC.out
                     go_simp
                     first
                     | exact rfl
                     | exact ⟨rfl, hS⟩
                     | (fail)
                   go_simp
                   refine hK _ ?_
                   clear hK K)
                | (refine det_step (fun K hK => ?_); refine det_no' rfl ?_; go_simp; refine hK _ ?_; clear hK K))
              refine det_nil ?_
              intro W hS
              replace hS : Ext wr W := hS
              have g0 := hS.cell KX.out
              have hxW := HX'.out.below hS
              have g1 := hxW.frozen i
              have HXW := Lib.hid hxW
              have HOW := Lib.hid (HO'.out.trans (Only.of_below g6 hS))
              clear hxW hS
              go_wp2_with fail
              go_roundw
              case rel =>
                refine ⟨k + 1, by omega, by go_num, ?_, HOW.out.trans (Only.set _ _ _ _)⟩
                have := HXW.out.put i (wordV (x <<< 8 + cx)) rfl
                rw [wordsC_set, ← PS.out, ST.out, PS.out] at this
                rw [PS.out]
                exact this
              case measure => simp [intOf]; omega
            · obtain rfl : k = 4 := by omega
              have fs := first_succ blk i
              have hx' : isBlk wr g6 274 (wordsC (Sp.first blk (i + 1) ++ List.replicate (64 - (i + 1)) 0)) := by
                rw [fs, show 64 - (i + 1) = 63 - i by omega, ← part4_be, List.append_assoc]; exact hx
              have HX' := Lib.hid hx'
              have HO' := Lib.hid ho
              clear hx hx' ho fs
              go_wp2_with fail
              refine ⟨⟨i + 1, by omega, by go_num, HX'.out, HO'.out⟩, by simp [intOf]; omega⟩
        · obtain rfl : i = 16 := by omega
          rw [show ((16 : Nat) : Int) = 16 from rfl]
          have ZX := Lib.hid hx
          have ZO := Lib.hid ho
          clear hx ho
          go_wp2_with fail
          go_loopw [9] (fun v9 wr => ∃ n i : Nat, n ≤ 48 ∧ i = 16 + n ∧ v9 = .int .i64 i ∧ isBlk wr g6 274 (wordsC (Sp.sched blk n ++ List.replicate (48 - n) 0)) ∧ Only g6 w7 wr) (fun v9 _ => 64 - (intOf v9).toNat)
          case atStart => exact ⟨0, 16, by decide, rfl, rfl, ZX.out, ZO.out⟩
          case round =>
            obtain ⟨n, i, hn, hi16, rfl, hx, ho⟩ := hrel
            by_cases hltn : i < 64
            · have ln := Sp.sched_len blk n
              obtain ⟨j16, h16⟩ : ∃ j, j = i - 16 := ⟨_, rfl⟩
              obtain ⟨j15, h15⟩ : ∃ j, j = i - 15 := ⟨_, rfl⟩
              obtain ⟨j7, h7⟩ : ∃ j, j = i - 7 := ⟨_, rfl⟩
              obtain ⟨j2, h2⟩ : ∃ j, j = i - 2 := ⟨_, rfl⟩
              have q16 : IntKind.i64.wrap ((i : Int) - 16) = (j16 : Int) := by rw [IntWalk.i64_in _ (by omega)]; omega
              have q15 : IntKind.i64.wrap ((i : Int) - 15) = (j15 : Int) := by rw [IntWalk.i64_in _ (by omega)]; omega
              have q7 : IntKind.i64.wrap ((i : Int) - 7) = (j7 : Int) := by rw [IntWalk.i64_in _ (by omega)]; omega
              have q2 : IntKind.i64.wrap ((i : Int) - 2) = (j2 : Int) := by rw [IntWalk.i64_in _ (by omega)]; omega
              have cellAt : ∀ j, j < i → (wordsC (Sp.sched blk n ++ List.replicate (48 - n) 0))[j]? = some (wordV ((Sp.sched blk n).getD j 0)) := fun j hj => by
                rw [wordsC_get _ j (by rw [List.length_append, List.length_replicate, ln]; omega), List.getD_eq_getElem?_getD, List.getElem?_append_left (by rw [ln]; omega), List.getD_eq_getElem?_getD]
              have k16 := cellAt j16 (by omega)
              have k15 := cellAt j15 (by omega)
              have k7 := cellAt j7 (by omega)
              have k2 := cellAt j2 (by omega)
              have nx : Sp.next (Sp.sched blk n) = (Sp.sched blk n).getD j16 0 + Sp.lowS ((Sp.sched blk n).getD j15 0) + (Sp.sched blk n).getD j7 0 + Sp.highS ((Sp.sched blk n).getD j2 0) := by
                unfold Sp.next; rw [ln, h16, h15, h7, h2, hi16]
              obtain ⟨x16, y16⟩ : ∃ x, x = (Sp.sched blk n).getD j16 0 := ⟨_, rfl⟩
              obtain ⟨x15, y15⟩ : ∃ x, x = (Sp.sched blk n).getD j15 0 := ⟨_, rfl⟩
              obtain ⟨x7, y7⟩ : ∃ x, x = (Sp.sched blk n).getD j7 0 := ⟨_, rfl⟩
              obtain ⟨x2, y2⟩ : ∃ x, x = (Sp.sched blk n).getD j2 0 := ⟨_, rfl⟩
              rw [← y16] at k16 nx
              rw [← y15] at k15 nx
              rw [← y7] at k7 nx
              rw [← y2] at k2 nx
              have b0 : (i : Int) < 64 := by omega
              have b16 : (j16 : Int) < 64 := by omega
              have b15 : (j15 : Int) < 64 := by omega
              have b7 : (j7 : Int) < 64 := by omega
              have b2 : (j2 : Int) < 64 := by omega
              have HI := Lib.hid hi16
              have NX := Lib.hid nx
              have HX' := Lib.hid hx
              have HO' := Lib.hid ho
              clear h16 h15 h7 h2 y16 y15 y7 y2 cellAt hi16 nx ln hx ho
              go_wp2_with fail
              refine wp_region_det_tail (fun W => Ext wr W) 46 (by kernel_rfl) (by kernel_rfl) (Ext.refl _).drew ?_
              simp only [List.take_succ_cons, List.take_zero, List.drop_succ_cons, List.drop_zero]
              repeat (first
                | (refine det_step (fun K hK => ?_)
                   apply Exists.intro
                   refine ⟨Or.inl ⟨rfl, fun W hS => ?_⟩, ?_⟩
                   · have hz : Ext wr W := hS; have z := HX'.out.below hz; have f0 := (z.cell j16).trans k16; have f1 := (z.cell j7).trans k7; have f2 := (z.cell j15).trans k15; have f3 := (z.cell j2).trans k2
                     go_simp
                     first
                     | exact rfl
                     | exact ⟨rfl, hS⟩
                     | (refine (rturn_calls _ _ W (by decide)).mono ?_; rintro e w1 ⟨rfl, rfl⟩; exact ⟨rfl, hz⟩)
                   go_simp
                   refine hK _ ?_
                   clear hK K)
                | (refine det_step (fun K hK => ?_); refine det_no' rfl ?_; go_simp; refine hK _ ?_; clear hK K))
              refine det_nil ?_
              intro W hS
              replace hS : Ext wr W := hS
              have ln := Sp.sched_len blk n
              have hxW := HX'.out.below hS
              have g0 := (hxW.cell i).trans (wordsC_get _ i (by rw [List.length_append, List.length_replicate, ln]; have := HI.out; omega))
              have g1 := hxW.frozen i
              have HXW := Lib.hid hxW
              have HOW := Lib.hid (HO'.out.trans (Only.of_below g6 hS))
              clear hxW ln k16 k15 k7 k2 hS
              go_wp2_with fail
              go_roundw
              case rel =>
                refine ⟨n + 1, i + 1, by have := HI.out; omega, by rw [HI.out]; omega, by go_num, ?_, HOW.out.trans (Only.set _ _ _ _)⟩
                have := HXW.out.put i (wordV (x16 + (Sp.rotr x15 7 ^^^ Sp.rotr x15 18 ^^^ x15 >>> 3) + x7 + (Sp.rotr x2 17 ^^^ Sp.rotr x2 19 ^^^ x2 >>> 10))) rfl
                rw [wordsC_set] at this
                have fs := fill_step (Sp.sched blk n) (Sp.next (Sp.sched blk n)) 64 (by rw [Sp.sched_len]; have := HI.out; omega)
                rw [show Sp.sched blk n ++ [Sp.next (Sp.sched blk n)] = Sp.sched blk (n + 1) from rfl, Sp.sched_len, Sp.sched_len, ← HI.out, show 64 - i = 48 - n by rw [HI.out]; omega, show 64 - (16 + (n + 1)) = 48 - (n + 1) by omega, NX.out] at fs
                unfold Sp.lowS Sp.highS at fs
                rw [fs] at this
                exact this
              case measure => simp [intOf]; omega
            · obtain rfl : n = 48 := by omega
              obtain rfl : i = 64 := by omega
              rw [show ((64 : Nat) : Int) = 64 from rfl]
              have hx' : isBlk wr g6 274 (wordsC (Sp.sched blk 48)) := by simpa using hx
              have sl := Sp.sched_len blk 48
              obtain ⟨S, hS⟩ : ∃ S, S = Sp.sched blk 48 := ⟨_, rfl⟩
              rw [← hS] at hx' sl
              obtain ⟨H, hH⟩ : ∃ H, H = Sp.mixN m Sp.start p := ⟨_, rfl⟩
              have hl8 : H.length = 8 := by rw [hH]; exact Sp.mixN_len _ _ _ rfl
              have MX := Lib.hid (show List.zipWith (· + ·) (Sp.rnds S H 64) H = Sp.mixN (m + 1) Sp.start p by
                rw [Sp.mixN_snoc, ← HBK.out, ← hH, hS]; rfl)
              have MXL := Lib.hid (show (List.zipWith (· + ·) (Sp.rnds S H 64) H).length = 8 by rw [MX.out]; exact Sp.mixN_len _ _ _ rfl)
              obtain ⟨S6, hS6⟩ : ∃ S6, S6 = wordsC S := ⟨_, rfl⟩
              obtain ⟨H8, hH8⟩ : ∃ H8, H8 = wordsC H := ⟨_, rfl⟩
              obtain ⟨N8, hN8⟩ : ∃ N8, N8 = wordsC (List.zipWith (· + ·) (Sp.rnds S H 64) H) := ⟨_, rfl⟩
              have ws6 : S6.size = 64 := by rw [hS6, wordsC_size, sl]
              have wh8 : H8.size = 8 := by rw [hH8, wordsC_size, hl8]
              have wn8 : N8.size = 8 := by rw [hN8, wordsC_size, MXL.out]
              have on8 : N8.all (·.oneCell') = true := by rw [hN8]; exact wordsC_one _
              have h36 : g3 ≠ g6 := by have := HX.out.lt; have := G6.out; omega
              have HG := Lib.hid (show isBlk wr g3 272 H8 by rw [hH8, hH]; exact ho.blk (HX.out.below B6.out) h36)
              have HS6 := Lib.hid (show isBlk wr g6 274 S6 by rw [hS6]; exact hx')
              have EW := Lib.hid (show Below W0.heap.size wo wr from (B6.out.mono HO.out.size).trans (ho.below (by have := HO.out.size; have := G6.out; omega) (by have := B6.out.size; have := HO.out.size; omega)))
              have KR := Lib.hid (K.ext (E0.out.from' ((HO.out.then_ext EW.out).below G3.out E0.out.size)))
              have RC := Lib.hid (rround_calls H S wr hl8 sl KR.out)
              rw [← hS6, ← hH8, ← hN8] at RC
              have HN8 := Lib.hid hN8
              have NG := Lib.hid h36
              clear hx hx' ho hS hH hS6 hH8 hN8 h36
              go_wp2_with (first
                | ((with_reducible refine at_load (t := 272) rfl ?_); refine wpList_load_row rfl _ _ rfl g3 rfl 272 H8 (0, 0) _ HG.out Tryz.underlying272 rfl (by rw [wh8]; kernel_rfl) ?_)
                | ((with_reducible refine at_load (t := 274) rfl ?_); refine wpList_load_row rfl _ _ rfl g6 rfl 274 S6 (0, 0) _ HS6.out Tryz.underlying274 rfl (by rw [ws6]; kernel_rfl) ?_))
              refine RC.out.mono ?_
              rintro e w8 ⟨rfl, hb8⟩
              have HG8 := Lib.hid (HG.out.below hb8)
              have B8 := Lib.hid (EW.out.trans (hb8.mono (by have := EW.out.size; have := HO.out.size; omega)))
              go_wp2_with ((with_reducible refine at_store (t := 272) rfl ?_); refine wpList_store_row rfl _ _ _ rfl g3 N8 rfl rfl 272 _ HG8.out (by rw [wn8]; kernel_rfl) (by rw [wh8, wn8]) on8 ?_)
              refine ⟨⟨m + 1, a + 64, by have := hm1'.out; omega, by have := HAM.out; omega, by go_num, ?_, (HO.out.then_ext B8.out).trans (Only.setRow _ _ _)⟩, by simp [intOf]; omega⟩
              rw [← MX.out, ← HN8.out]
              exact setRow_heap _ _ _ _ _ _ HG8.out
    · have hmL : m = L / 64 := by have := PL.out; omega
      obtain ⟨H, hH⟩ : ∃ H, H = Sp.mixN m Sp.start p := ⟨_, rfl⟩
      have hl8 : H.length = 8 := by rw [hH]; exact Sp.mixN_len _ _ _ rfl
      have SD := Lib.hid (show Sp.sha l = Sp.digest H by rw [SH.out, hH, hmL])
      rw [← hH] at hx
      have HX := Lib.hid hx
      have HO := Lib.hid ho
      have tokd : True := trivial
      have toks : True := trivial
      clear hH hx ho hm ham
      go_wp2_with (first
        | (have _t6 := tokd; ((with_reducible refine at_alloc (t := 36) rfl ?_); refine box_new rfl (cs := zero32) (t := 36) (by first | (go_simp; done) | (go_simp; rfl)) ?_; intro g6 w6 hg6 hx6 hb6; have Y6 := Lib.hid hx6; have C6 := Lib.hid hb6; have G6 := Lib.hid hg6; clear tokd _t6 hx6 hb6 hg6))
        | (have _t7 := toks; ((with_reducible refine at_store (t := 36) rfl ?_); refine wpList_store_row rfl _ _ _ rfl g6 zero32 rfl rfl 36 _ Y6.out (by kernel_rfl) (by kernel_rfl) (by kernel_rfl) ?_; clear toks _t7)))
      obtain ⟨w7, hw7⟩ : ∃ w7, w7 = w6.setRow g6 zero32 := ⟨_, rfl⟩
      rw [← hw7]
      have B6 := Lib.hid (show Ext wr w7 by rw [hw7]; exact below_setRow C6.out G6.out _)
      have X6 := Lib.hid (show isBlk w7 g6 36 zero32 by rw [hw7]; exact setRow_heap _ _ _ _ _ _ Y6.out)
      have X3 := Lib.hid (HX.out.below B6.out)
      have N36 := Lib.hid (show g3 ≠ g6 by have := HX.out.lt; have := G6.out; omega)
      have N26 := Lib.hid (show g2 ≠ g6 by have := H20.out.lt; have := HO.out.size; have := G6.out; omega)
      have X2 := Lib.hid ((HO.out.blk H20.out N23.out).below B6.out)
      have E7 := Lib.hid (show Ext w w7 from E0.out.from' ((HO.out.then_ext (B6.out.mono HO.out.size)).below G3.out E0.out.size))
      have GW := Lib.hid (show w.heap.size ≤ g6 by have := E0.out.size; have := HO.out.size; have := G6.out; omega)
      clear hw7
      go_loopw [11] (fun v11 wr => ∃ i : Nat, i ≤ 32 ∧ v11 = .int .i64 i ∧ isBlk wr g6 36 (digC ((Sp.digest H).take i ++ List.replicate (32 - i) 0)) ∧ Only g6 w7 wr) (fun v11 _ => 32 - (intOf v11).toNat)
      case atStart => exact ⟨0, by decide, rfl, X6.out, Only.refl _ _⟩
      case round =>
        obtain ⟨i, hi, rfl, hx, ho⟩ := hrel
        have dl : (Sp.digest H).length = 32 := by rw [Sp.digest_len, hl8]
        by_cases hlt32 : i < 32
        · obtain ⟨q, hq⟩ : ∃ q, q = i / 4 := ⟨_, rfl⟩
          obtain ⟨r, hr⟩ : ∃ r, r = i % 4 := ⟨_, rfl⟩
          obtain ⟨e, he⟩ : ∃ e, e = 24 - 8 * r := ⟨_, rfl⟩
          have q1 : (i : Int) / 4 = (q : Int) := by omega
          have q2 : (i : Int) % 4 = (r : Int) := by omega
          have q1' : Int.tdiv (i : Int) 4 = (q : Int) := by rw [Int.tdiv_eq_ediv_of_nonneg (by omega)]; omega
          have q2' : Int.tmod (i : Int) 4 = (r : Int) := by rw [Int.tmod_eq_emod_of_nonneg (by omega)]; omega
          have e1 : 24 - 8 * (r : Int) = (e : Int) := by omega
          have e2 : IntKind.u64.wrap (e : Int) = (e : Int) := by rw [IntKind.wrap_u64]; omega
          have e3 : min e 32 = e := by omega
          have e4 : min e 64 = e := by omega
          have kq := (ho.blk X3.out N36.out).cell q
          replace kq := kq.trans (wordsC_get H q (by omega))
          have gd := digest_getD H i (by omega)
          rw [← hq, ← hr, ← he] at gd
          obtain ⟨x, hxx⟩ : ∃ x, x = H.getD q 0 := ⟨_, rfl⟩
          rw [← hxx] at kq gd
          obtain ⟨c, hc⟩ : ∃ c, c = UInt8.ofNat (x.toNat / 2 ^ e) := ⟨_, rfl⟩
          have e5 : wd x / 2 ^ e % 256 = (c.toNat : Int) := by rw [hc, UInt8.toNat_ofNat']; unfold wd; norm_cast
          have bq : (q : Int) < 8 := by omega
          have bi : (i : Int) < 32 := by omega
          have tk := List.take_succ_eq_append_getElem (show i < (Sp.digest H).length by omega)
          have tg : (Sp.digest H)[i] = c := by
            rw [hc, ← gd, List.getD_eq_getElem?_getD, List.getElem?_eq_getElem (by omega)]; rfl
          rw [tg] at tk
          have st : ((Sp.digest H).take i ++ List.replicate (32 - i) 0).set i c = (Sp.digest H).take (i + 1) ++ List.replicate (32 - (i + 1)) 0 := by
            rw [tk, show 32 - i = (32 - (i + 1)) + 1 by omega, List.replicate_succ, List.append_assoc]
            have := set_mid ((Sp.digest H).take i) c 0 (List.replicate (32 - (i + 1)) (0 : UInt8))
            rw [show ((Sp.digest H).take i).length = i by rw [List.length_take, dl]; omega] at this
            exact this
          obtain ⟨u, kc⟩ : ∃ u : Int, wr.cell? ⟨g6, i, none⟩ = some (.int .u8 u) := ⟨_, (hx.cell i).trans (digC_get _ i (by rw [List.length_append, List.length_take, List.length_replicate, dl]; omega))⟩
          have kf := hx.frozen i
          have ST := Lib.hid st
          have HX' := Lib.hid hx
          have HO' := Lib.hid ho
          clear hx ho st tk tg gd hq hr he hxx hc dl
          go_wp2_with fail
          go_roundw
          case rel =>
            refine ⟨i + 1, by omega, by go_num, ?_, HO'.out.trans (Only.set _ _ _ _)⟩
            have := HX'.out.put i (.int .u8 c.toNat) rfl
            rw [digC_set, ST.out] at this
            exact this
          case measure => simp [intOf]; omega
        · obtain rfl : i = 32 := by omega
          rw [show ((32 : Nat) : Int) = 32 from rfl]
          have HX' := Lib.hid (show isBlk wr g6 36 arr by
            rw [HA.out, SD.out]
            rwa [List.take_of_length_le (by omega), Nat.sub_self, List.replicate_zero, List.append_nil] at hx)
          have X2' := Lib.hid (ho.blk X2.out N26.out)
          have HO' := Lib.hid ho
          clear hx ho
          go_wp2_with (first
            | ((with_reducible refine at_load (t := 36) rfl ?_); refine wpList_load_row rfl _ _ rfl g6 rfl 36 arr (0, 0) _ HX'.out Tryz.underlying36 rfl (by rw [hds, hsl]; kernel_rfl) ?_)
            | ((with_reducible refine at_store (t := 36) rfl ?_); refine wpList_store_row rfl _ _ _ rfl g2 arr rfl rfl 36 _ X2'.out (by rw [hds, hsl]; kernel_rfl) (by rw [hds, hsl]; rfl) w1 ?_))
          refine bodyPost_ret (results_cell_row rfl _ _ g2 36 arr (0, 0) _ rfl (setRow_heap _ _ _ _ _ _ X2'.out) Tryz.underlying36 rfl (by rw [hds, hsl]; kernel_rfl)) rfl ?_
          exact ⟨rfl, below_setRow (E7.out.from' (HO'.out.below GW.out E7.out.size)) GG2.out _⟩
end Go.Proofs.YtmlfnidckfeebaaGreatDoor
namespace Go.Proofs.YtmlfnidckfeebaaGreatDoor
open Go.RowKit Go.Shelf
attribute [local go_sem] yUpon strOf_toList
theorem egn1 : ∀ args w, (callFunc 310 args).run Tryz.prog w = .ok (.enter 310 args) w := enters_of Tryz.func310 (by kernel_rfl) rfl
theorem egn2 : ∀ args w, (callFunc 311 args).run Tryz.prog w = .ok (.enter 311 args) w := enters_of Tryz.func311 (by kernel_rfl) rfl
abbrev nodeA (A : Option Addr) (n cap : Nat) (B : Option Addr) (m cap' : Nat) : Array Value := #[.slice A n cap, .slice B m cap']
set_option maxRecDepth 100000 in
set_option maxHeartbeats 4000000 in
theorem nc1_calls (n : Sp.Node) (A B : Option Addr) (cap cap' g : Nat) (w : World) (hV : Vers w A n.1) (hx : isBlk w g 116 (nodeA A n.1.length cap B n.2.length cap')) :
    Calls Tryz.prog 310 #[.pointer (some ⟨g, 0, none⟩)] w fun e w' => e = .returned (.int .i64 (Sp.leaf n.1)) ∧ Ext w w' := by
  have f0 := (hx.cell 0).trans rfl
  have C := Lib.hid (leaf_calls n.1 A cap w hV)
  go_enter Tryz.func310, Tryz.ntmps310
  go_wp2_with fail
  refine C.out.mono ?_
  rintro e w1 ⟨rfl, hb⟩
  go_wp2
  go_ret
  exact ⟨rfl, hb⟩
set_option maxRecDepth 100000 in
set_option maxHeartbeats 4000000 in
theorem nc2_calls (n : Sp.Node) (A B : Option Addr) (cap cap' g : Nat) (w : World) (hK : Kids w B n.2) (hx : isBlk w g 116 (nodeA A n.1.length cap B n.2.length cap')) :
    Calls Tryz.prog 311 #[.pointer (some ⟨g, 0, none⟩)] w fun e w' => e = .returned (.int .i64 (Sp.kcheck n.2)) ∧ Ext w w' := by
  have f0 := (hx.cell 1).trans rfl
  have C := Lib.hid (kids_calls n.2 B cap' w hK)
  go_enter Tryz.func311, Tryz.ntmps311
  go_wp2_with fail
  refine C.out.mono ?_
  rintro e w1 ⟨rfl, hb⟩
  go_wp2
  go_ret
  exact ⟨rfl, hb⟩
set_option maxRecDepth 100000 in
set_option maxHeartbeats 4000000 in
theorem nfirst_calls (n : Sp.Node) (A B : Option Addr) (cap cap' g s : Nat) (w : World) (hV : Vers w A n.1) (hK : Kids w B n.2) (hx : isBlk w g 116 (nodeA A n.1.length cap B n.2.length cap'))
    (h0 : w.cell? ⟨s, 0, none⟩ = some (.func (.func 310) #[] #[.pointer (some ⟨g, 0, none⟩)]))
    (h1 : w.cell? ⟨s, 1, none⟩ = some (.func (.func 311) #[] #[.pointer (some ⟨g, 0, none⟩)])) :
    Calls Tryz.prog 309 #[.slice (some ⟨s, 0, none⟩) 2 2] w fun e w' => e = .returned (.int .i64 (Sp.ncheck n)) ∧ Ext w w' := by
  have eg1 := egn1
  have eg2 := egn2
  go_enter Tryz.func309, Tryz.ntmps309
  go_wp2
  go_loopw [8] (fun v8 wr => ∃ k : Nat, k ≤ 2 ∧ v8 = .int .i64 k ∧ Ext w wr ∧ (0 < k → Sp.leaf n.1 = 0) ∧ (1 < k → Sp.kcheck n.2 = 0)) (fun v8 _ => 2 - (intOf v8).toNat)
  case atStart => exact ⟨0, by decide, rfl, Ext.refl _, fun h => by omega, fun h => by omega⟩
  case round =>
    obtain ⟨k, hk, rfl, hb, hl, hkk⟩ := hrel
    rcases k with _ | _ | _ | k
    · rw [show ((0 : Nat) : Int) = 0 from rfl]
      have c0 := hb.cell h0
      have C := Lib.hid (nc1_calls n A B cap cap' g wr (hV.ext hb) (hx.below hb))
      have HB := Lib.hid hb
      clear hb hl hkk
      go_wp2_with fail
      refine C.out.mono ?_
      rintro e w1 ⟨rfl, hb1⟩
      by_cases hz : Sp.leaf n.1 = 0
      · rw [hz]
        go_wp2
        refine ⟨⟨1, by omega, rfl, HB.out.trans hb1, fun _ => hz, fun h => by omega⟩, by simp [intOf]⟩
      · have F := Lib.hid (show Sp.ncheck n = Sp.leaf n.1 from if_pos hz)
        go_wp2
        go_ret
        exact ⟨ret_int F.out.symm, HB.out.trans hb1⟩
    · rw [show ((0 + 1 : Nat) : Int) = 1 from rfl]
      have hz := hl (by omega)
      have c0 := hb.cell h1
      have C := Lib.hid (nc2_calls n A B cap cap' g wr (hK.ext hb) (hx.below hb))
      have HB := Lib.hid hb
      clear hb hl hkk
      have F := Lib.hid (show Sp.ncheck n = Sp.kcheck n.2 from if_neg (by simpa using hz))
      go_wp2_with fail
      refine C.out.mono ?_
      rintro e w1 ⟨rfl, hb1⟩
      by_cases hy : Sp.kcheck n.2 = 0
      · rw [hy]
        go_wp2
        refine ⟨⟨2, by omega, rfl, HB.out.trans hb1, fun _ => hz, fun _ => hy⟩, by simp [intOf]⟩
      · go_wp2
        go_ret
        exact ⟨ret_int F.out.symm, HB.out.trans hb1⟩
    · rw [show ((0 + 1 + 1 : Nat) : Int) = 2 from rfl]
      have F := Lib.hid (show Sp.ncheck n = 0 by unfold Sp.ncheck; rw [if_neg (by rw [hl (by omega)]; simp), hkk (by omega)])
      go_wp2
      go_ret
      exact ⟨ret_int F.out.symm, hb⟩
    · omega
set_option maxRecDepth 100000 in
set_option maxHeartbeats 4000000 in
theorem ncheck_calls (n : Sp.Node) (A B : Option Addr) (cap cap' : Nat) (w : World) (hV : Vers w A n.1) (hK : Kids w B n.2) :
    Calls Tryz.prog 288 #[nodeV A n.1.length cap B n.2.length cap'] w fun e w' => e = .returned (.int .i64 (Sp.ncheck n)) ∧ Ext w w' := by
  obtain ⟨W0, hW0⟩ : ∃ W0, W0 = w.alloc (.cells (nodeA A n.1.length cap B n.2.length cap') 116) := ⟨_, rfl⟩
  have E0 := Lib.hid (show Ext w W0 by rw [hW0]; exact Ext.alloc _ _)
  have X0 := Lib.hid (show isBlk W0 w.heap.size 116 (nodeA A n.1.length cap B n.2.length cap') by rw [hW0]; exact box_at _ _ _)
  have HW := Lib.hid hW0.symm
  have SZ := Lib.hid (show W0.heap.size = w.heap.size + 1 by rw [hW0]; simp)
  clear hW0
  go_enter Tryz.func288, Tryz.ntmps288
  go_wp2_with fail
  have X1 := X0.out.below (Ext.alloc W0 (.cells #[.func (.func 310) #[] #[.pointer (some ⟨w.heap.size, 0, none⟩)], .func (.func 311) #[] #[.pointer (some ⟨w.heap.size, 0, none⟩)]] 252))
  have Y1 := box_at W0 #[.func (.func 310) #[] #[.pointer (some ⟨w.heap.size, 0, none⟩)], .func (.func 311) #[] #[.pointer (some ⟨w.heap.size, 0, none⟩)]] 252
  have E1 := Lib.hid (E0.out.trans (Ext.alloc W0 (.cells #[.func (.func 310) #[] #[.pointer (some ⟨w.heap.size, 0, none⟩)], .func (.func 311) #[] #[.pointer (some ⟨w.heap.size, 0, none⟩)]] 252)))
  rw [HW.out]
  rw [SZ.out] at Y1
  refine (nfirst_calls n A B cap cap' w.heap.size (w.heap.size + 1) _ (hV.ext E1.out) (hK.ext E1.out) X1 ((Y1.cell 0).trans rfl) ((Y1.cell 1).trans rfl)).mono ?_
  rintro e w2 ⟨rfl, hb2⟩
  go_wp2
  go_ret
  exact ⟨rfl, E1.out.trans hb2⟩
set_option maxRecDepth 100000 in
set_option maxHeartbeats 4000000 in
theorem nbytes_calls (n : Sp.Node) (A B : Option Addr) (cap cap' : Nat) (w : World) (hV : Vers w A n.1) (hK : Kids w B n.2) :
    Calls Tryz.prog 261 #[nodeV A n.1.length cap B n.2.length cap'] w fun e w' => e = .returned (.tuple #[.string (strOf (Sp.nbytes n).1), .int .i64 (Sp.nbytes n).2]) ∧ Ext w w' := by
  obtain ⟨W0, hW0⟩ : ∃ W0, W0 = w.alloc (.cells (nodeA A n.1.length cap B n.2.length cap') 116) := ⟨_, rfl⟩
  have E0 := Lib.hid (show Ext w W0 by rw [hW0]; exact Ext.alloc _ _)
  obtain ⟨g0, hg0⟩ : ∃ g0, g0 = w.heap.size := ⟨_, rfl⟩
  have X0 := Lib.hid (show isBlk W0 g0 116 (nodeA A n.1.length cap B n.2.length cap') by rw [hW0, hg0]; exact box_at _ _ _)
  have HW := Lib.hid hW0.symm
  have CK := Lib.hid (ncheck_calls n A B cap cap' W0 (hV.ext E0.out) (hK.ext E0.out))
  clear hW0
  go_enter Tryz.func261, Tryz.ntmps261
  go_wp2_with fail
  rw [HW.out, ← hg0]
  clear hg0
  refine CK.out.mono ?_
  rintro e W1 ⟨rfl, hb1⟩
  have E1 := Lib.hid (E0.out.trans hb1)
  have X1 := Lib.hid (X0.out.below hb1)
  have V1 := Lib.hid (hV.ext E1.out)
  have K1 := Lib.hid (hK.ext E1.out)
  clear hb1 hV hK
  by_cases hc : Sp.ncheck n = 0
  · rw [hc]
    have NB := Lib.hid (show Sp.nbytes n = Sp.wdone (Sp.wnode n) from if_neg (by simpa using hc))
    obtain ⟨hleaf, hk128, hkgo⟩ := Sp.ncheck_ok hc
    have Y0 := Lib.hid (show IsWr W1.heap.size W1.heap.size ([], 0) (W1.alloc (.cells #[.pointer none, .slice none 0 0, .int .i64 0] 176)) from
      ⟨Nat.le_refl _, .pointer none, .slice none 0 0, .inl rfl, heap_alloc_new _ _, World.ownsRow_nil _ _ _ _, by simp [Value.ownBlock]⟩)
    have f0 := ((X1.out.alloc (.cells #[.pointer none, .slice none 0 0, .int .i64 0] 176)).cell 0).trans rfl
    go_wp2_with fail
    refine (putleaf_calls W1 W1.heap.size ([], 0) n.1 A cap _ (Ext.alloc _ _) Y0.out V1.out (by simp)).mono ?_
    rintro e w2 ⟨rfl, t2⟩
    have B2 := Lib.hid (t2.ext (Ext.alloc _ _))
    have L2 := Lib.hid (Sp.wleaf_len n.1 ([], 0))
    have f1 := ((X1.out.below B2.out).cell 1).trans rfl
    have W2 := Lib.hid t2.wr
    clear t2 f0
    go_wp2_with fail
    refine (wnum_calls W1.heap.size W1.heap.size _ (n.2.length : Int) w2 W2.out (by have := L2.out; simp at this; omega) B2.out.size).mono ?_
    rintro e w3 ⟨rfl, hw3, hb3, _, hs3⟩
    have B3 := Lib.hid (show Below W1.heap.size W1 w3 from hb3.from B2.out)
    have f1 := ((X1.out.below B3.out).cell 1).trans rfl
    obtain ⟨x0, hx0⟩ : ∃ x0, x0 = Sp.wnum n.2.length (Sp.wleaf n.1 ([], 0)) := ⟨_, rfl⟩
    have L3 := Lib.hid (show x0.1.length ≤ 50000 by
      have h1 := Sp.wnum_len (n.2.length : Int) (Sp.wleaf n.1 ([], 0)); have h2 := L2.out; rw [hx0]; simp at h2; omega)
    rw [← hx0] at hw3
    have W3 := Lib.hid hw3
    have NN := Lib.hid (show Sp.wnode n = Sp.wkids n.2 x0 by rw [hx0]; rfl)
    have NS := Lib.hid (Sp.wnode_some n)
    obtain ⟨l, hl⟩ : ∃ l, l = n.2 := ⟨_, rfl⟩
    rw [← hl] at NN K1 hk128 f1 X1 ⊢
    clear hb3 hw3 hx0 hl B2 W2 hs3
    go_wp2_with fail
    clear f1
    obtain ⟨B, hB⟩ : ∃ B, B = W1.heap.size := ⟨_, rfl⟩
    rw [← hB] at W3 B3 ⊢
    have HBB := Lib.hid hB
    clear hB
    go_loopw [27] (fun v27 wr => ∃ k : Nat, k ≤ l.length ∧ v27 = .int .i64 k ∧ IsWr B B (Sp.wkids (l.take k) x0) wr ∧ Below B W1 wr) (fun v27 _ => l.length - (intOf v27).toNat)
    case atStart => exact ⟨0, Nat.zero_le _, rfl, W3.out, B3.out⟩
    case round =>
      obtain ⟨k, hk, rfl, hw, hb⟩ := hrel
      have hb' : Ext W1 wr := by have := hb; rwa [HBB.out] at this
      by_cases hlt : k < l.length
      · obtain ⟨g, o, rfl, hat⟩ := (K1.out.ext hb').at (Nat.lt_of_le_of_lt (Nat.zero_le _) hlt)
        have hok := K1.out.2 l[k] (List.getElem_mem hlt)
        have hR := hat k hlt
        have tk := List.take_succ_eq_append_getElem hlt
        have LK := Sp.wkids_len 1000000 32 (l.take k) x0 (fun j hj => by have := K1.out.2 j (List.mem_of_mem_take hj); omega)
        rw [List.length_take, Nat.min_eq_left hk] at LK
        have LK' := Lib.hid (show (Sp.wkids (l.take k) x0).1.length ≤ 1000000000 by
          have := L3.out
          have : k * (1000000 + 32 + 20) ≤ 128 * (1000000 + 32 + 20) := Nat.mul_le_mul_right _ (by omega)
          omega)
        obtain ⟨kd, hkd⟩ : ∃ kd, kd = l[k] := ⟨_, rfl⟩
        rw [← hkd] at hok hR tk
        have HR := Lib.hid hR
        have TK := Lib.hid (show Sp.wkids (l.take (k + 1)) x0 = Sp.wkid kd (Sp.wkids (l.take k) x0) by rw [tk, Sp.wkids_snoc])
        obtain ⟨xk, hxk⟩ : ∃ xk, xk = Sp.wkids (l.take k) x0 := ⟨_, rfl⟩
        rw [← hxk] at hw TK LK'
        have KL := kidL_len kd hok.1
        have ka : ((kidL kd).toArray).size = 33 := by simp [KL]
        have k0 : ((kidL kd).toArray)[0]? = some (.string (strOf kd.1)) := rfl
        have HWR := Lib.hid hw
        have HB := Lib.hid hb
        have HB' := Lib.hid hb'
        clear hR hb hat hkd hw tk LK hxk hb'
        have tok2 : True := trivial
        have tok3 : True := trivial
        have tok4 : True := trivial
        go_wp2_with (first
          | (have _t2 := tok2; (with_reducible refine at_load (t := 268) rfl ?_); refine wpList_load_mid rfl _ _ rfl g (o + k * 33) rfl (kidL kd) _ HR.out Tryz.underlying268 rfl (by rw [KL]; kernel_rfl) ?_; clear tok2 _t2)
          | (have _t3 := tok3; ((with_reducible refine at_alloc (t := 268) rfl ?_); refine box_new rfl (cs := kid0) (t := 268) (by first | (go_simp; done) | (go_simp; rfl)) ?_; intro g4 w4 hg4 hx4 hb4; have H4 := Lib.hid hx4; have B4 := Lib.hid hb4; have GG4 := Lib.hid hg4; clear tok3 _t3 hx4 hb4 hg4))
          | (have _t4 := tok4; ((with_reducible refine at_store (t := 268) rfl ?_); refine wpList_store_row rfl _ _ _ rfl g4 (kidL kd).toArray rfl rfl 268 _ H4.out (by rw [ka]; kernel_rfl) (by rw [ka]; rfl) (kid_one kd) ?_; obtain ⟨w5, hw5⟩ : ∃ w5, w5 = w4.setRow g4 (kidL kd).toArray := ⟨_, rfl⟩; rw [← hw5]; have B5 := Lib.hid (show Ext wr w5 by rw [hw5]; exact below_setRow B4.out GG4.out _); have X5 := Lib.hid (show isBlk w5 g4 268 (kidL kd).toArray by rw [hw5]; exact setRow_heap _ _ _ _ _ _ H4.out); have f0 := (X5.out.cell 0).trans k0; clear hw5 tok4 _t4)))
        have S5 := Lib.hid (show B ≤ w5.heap.size by have := B5.out.size; have := HB.out.size; have := HBB.out; omega)
        refine (wtext_calls B B xk (strOf kd.1) w5 (HWR.out.below B5.out) (by have := LK'.out; omega) (by rw [strOf_size]; omega) S5.out).mono ?_
        rintro e w6 ⟨rfl, hw6, hb6, hk6, hs6⟩
        rw [strOf_data] at hw6
        have W6 := Lib.hid hw6
        have X6 := Lib.hid (hk6 _ _ _ X5.out (by decide) (by decide))
        have S6 := Lib.hid (Nat.le_trans S5.out hs6)
        have B6 := Lib.hid (HB.out.trans ((B5.out.mono (by have := HB.out.size; have := HBB.out; omega)).trans hb6))
        have L6 := Lib.hid (show (Sp.wtext kd.1 xk).1.length ≤ 1000000000000 by have := Sp.wtext_len kd.1 xk; have := LK'.out; omega)
        have D6 := Lib.hid (X6.out.rangeAt 1 (kd.2.map byteV) (fun j v hv => by
          rw [List.getElem?_toArray]
          unfold kidL
          rw [Nat.add_comm 1 j, List.getElem?_cons_succ]; exact hv))
        clear hw6 hb6 hk6 hs6 f0
        go_wp2_with ((with_reducible refine at_load (t := 36) rfl ?_); refine wpList_load_mid rfl _ _ rfl g4 1 rfl (kd.2.map byteV) _ D6.out Tryz.underlying36 rfl (by rw [List.length_map, hok.1]; kernel_rfl) ?_)
        refine (wdigest_calls B B _ kd.2 w6 hok.1 W6.out (by have := L6.out; omega) S6.out).mono ?_
        rintro e w7 ⟨rfl, t7⟩
        go_wp2
        go_roundw
        case rel => exact ⟨k + 1, by omega, by go_num, by rw [TK.out]; exact t7.wr, B6.out.trans t7.below⟩
        case measure => simp [intOf]; omega
      · obtain rfl : k = l.length := by omega
        rw [List.take_length, ← NN.out] at hw
        have DN := Lib.hid (wdone_calls B B (Sp.wnode n) wr hw NS.out)
        have HB' := Lib.hid hb'
        clear hw hb
        go_wp2_with fail
        refine DN.out.mono ?_
        rintro e w8 ⟨rfl, hb8⟩
        go_wp2
        go_ret2
        rw [NB.out]
        rw [HBB.out] at hb8
        exact ⟨rfl, E1.out.trans (hb8.from HB'.out)⟩
  · have NB := Lib.hid (show Sp.nbytes n = ([], Sp.ncheck n) from if_pos (by simpa using hc))
    go_wp2
    go_ret2
    rw [NB.out]
    exact ⟨rfl, E1.out⟩
theorem isRW.below {w w1 : World} {g : Nat} {x : Sp.W} (h : isRW w g x) (hb : Below w.heap.size w w1) : isRW w1 g x := isBlk.below h hb
set_option maxRecDepth 100000 in
set_option maxHeartbeats 4000000 in
theorem rnbytes_calls (n : Sp.Node) (A B : Option Addr) (cap cap' : Nat) (w : World) (hV : Vers w A n.1) (hK : Kids w B n.2) (hl : n.1.length ≤ 1000) (hd : ∀ v ∈ n.1, v.data.length ≤ 100000 ∧ v.past.length ≤ 100000) (hk : n.2.length ≤ 1000) :
    Calls Tryz.prog 148 #[nodeV A n.1.length cap B n.2.length cap'] w fun e w' => e = .returned (.tuple #[.string (strOf (Sp.nbytes n).1), .int .i64 (Sp.nbytes n).2]) ∧ Ext w w' := by
  obtain ⟨W0, hW0⟩ : ∃ W0, W0 = w.alloc (.cells (nodeA A n.1.length cap B n.2.length cap') 116) := ⟨_, rfl⟩
  have E0 := Lib.hid (show Ext w W0 by rw [hW0]; exact Ext.alloc _ _)
  obtain ⟨g0, hg0⟩ : ∃ g0, g0 = w.heap.size := ⟨_, rfl⟩
  have X0 := Lib.hid (show isBlk W0 g0 116 (nodeA A n.1.length cap B n.2.length cap') by rw [hW0, hg0]; exact box_at _ _ _)
  have HW := Lib.hid hW0.symm
  have SZ := Lib.hid (show w.heap.size + 1 = W0.heap.size by rw [hW0]; simp)
  have V0 := Lib.hid (hV.ext E0.out)
  have K0 := Lib.hid (hK.ext E0.out)
  obtain ⟨W1, hW1⟩ : ∃ W1, W1 = W0.alloc (.cells #[.string (strOf []), .int .i64 0] 186) := ⟨_, rfl⟩
  have HW1 := Lib.hid (show W0.alloc (.cells #[.string ⟨#[]⟩, .int .i64 0] 186) = W1 from hW1.symm)
  have E1 := Lib.hid (show Ext W0 W1 by rw [hW1]; exact Ext.alloc _ _)
  obtain ⟨g, hg⟩ : ∃ g, g = W0.heap.size := ⟨_, rfl⟩
  have Y1 := Lib.hid (show isRW W1 g ([], 0) by rw [hW1, hg]; exact box_at _ _ _)
  have HG := Lib.hid (show W0.heap.size ≤ g by omega)
  have CK := Lib.hid (rncheck_calls n A B cap cap' W1 (V0.out.ext E1.out) (K0.out.ext E1.out))
  clear hW0 hV hK hW1
  go_enter Tryz.func148, Tryz.ntmps148
  go_wp2_with fail
  rw [HW.out, SZ.out, ← hg, ← hg0]
  rw [HW1.out]
  refine CK.out.mono ?_
  rintro e W2 ⟨rfl, hb2⟩
  have E2 := Lib.hid (E1.out.trans hb2)
  have Y2 := Lib.hid (Y1.out.below hb2)
  have LL := Lib.hid (show ∀ c : Int, (Sp.wfail c ([], 0)).1.length = 0 from fun c => by unfold Sp.wfail; rfl)
  have G0 := Lib.hid (show g0 ≠ g by have := SZ.out; omega)
  clear hb2 hg0 hg
  go_wp2_with fail
  refine (rwfail_calls g ([], 0) (Sp.ncheck n) W2 Y2.out).mono ?_
  rintro e W3 ⟨rfl, hw3, ho3⟩
  have Y3 := Lib.hid hw3
  have E3 := Lib.hid (E2.out.from' (ho3.below HG.out E2.out.size))
  have f0 := ((X0.out.below E3.out).cell 0).trans rfl
  clear hw3 ho3
  go_wp2_with fail
  refine (rputleaf_calls W0 g (Sp.wfail (Sp.ncheck n) ([], 0)) n.1 A cap W3 E3.out HG.out Y3.out V0.out hl hd (by rw [LL.out]; decide)).mono ?_
  rintro e W4 ⟨rfl, t4⟩
  have Y4 := Lib.hid t4.wr
  have E4 := Lib.hid (t4.ext HG.out E3.out)
  have L4 := Lib.hid (show (Sp.wleaf n.1 (Sp.wfail (Sp.ncheck n) ([], 0))).1.length ≤ 45381 by have := Sp.wleaf_len n.1 (Sp.wfail (Sp.ncheck n) ([], 0)); rw [LL.out] at this; omega)
  have f1 := ((X0.out.below E4.out).cell 1).trans rfl
  clear t4 f0
  go_wp2_with fail
  refine (rwnum_calls g _ (n.2.length : Int) W4 Y4.out (by have := L4.out; omega)).mono ?_
  rintro e W5 ⟨rfl, hw5, ho5⟩
  have E5 := Lib.hid (E4.out.from' (ho5.below HG.out E4.out.size))
  obtain ⟨x0, hx0⟩ : ∃ x0, x0 = Sp.wnum n.2.length (Sp.wleaf n.1 (Sp.wfail (Sp.ncheck n) ([], 0))) := ⟨_, rfl⟩
  have L5 := Lib.hid (show x0.1.length ≤ 50000 by
    have h1 := Sp.wnum_len (n.2.length : Int) (Sp.wleaf n.1 (Sp.wfail (Sp.ncheck n) ([], 0))); have h2 := L4.out; rw [hx0]; omega)
  rw [← hx0] at hw5
  have Y5 := Lib.hid hw5
  have NN := Lib.hid (show Sp.rnode n = Sp.wkids n.2 x0 by rw [hx0]; rfl)
  have NO := Lib.hid (Sp.rnode_ok n)
  obtain ⟨l, hll⟩ : ∃ l, l = n.2 := ⟨_, rfl⟩
  rw [← hll] at NN K0 hk X0 ⊢
  clear hw5 ho5 hx0 hll f1
  go_wp2_with fail
  go_loopw [5] (fun v5 wr => ∃ k : Nat, k ≤ l.length ∧ v5 = .int .i64 k ∧ isRW wr g (Sp.wkids (l.take k) x0) ∧ Ext W0 wr) (fun v5 _ => l.length - (intOf v5).toNat)
  case atStart => exact ⟨0, Nat.zero_le _, rfl, Y5.out, E5.out⟩
  case round =>
    obtain ⟨k, hkl, rfl, hw, hb⟩ := hrel
    have f1 := ((X0.out.below hb).cell 1).trans rfl
    by_cases hlt : k < l.length
    · obtain ⟨ga, o, rfl, hat⟩ := (K0.out.ext hb).at (Nat.lt_of_le_of_lt (Nat.zero_le _) hlt)
      have hok := K0.out.2 l[k] (List.getElem_mem hlt)
      have hR := (K0.out.at (Nat.lt_of_le_of_lt (Nat.zero_le _) hlt))
      obtain ⟨ga', o', hA, hR0⟩ := hR
      cases hA
      have hR := hR0 k hlt
      have tk := List.take_succ_eq_append_getElem hlt
      have LK := Sp.wkids_len 1000000 32 (l.take k) x0 (fun j hj => by have := K0.out.2 j (List.mem_of_mem_take hj); omega)
      rw [List.length_take, Nat.min_eq_left hkl] at LK
      have LK' := Lib.hid (show (Sp.wkids (l.take k) x0).1.length ≤ 1000000000000 by
        have := L5.out
        have : k * (1000000 + 32 + 20) ≤ 1000 * (1000000 + 32 + 20) := Nat.mul_le_mul_right _ (by omega)
        omega)
      obtain ⟨kd, hkd⟩ : ∃ kd, kd = l[k] := ⟨_, rfl⟩
      rw [← hkd] at hok hR tk
      have HR := Lib.hid hR
      have TK := Lib.hid (show Sp.wkids (l.take (k + 1)) x0 = Sp.wkid kd (Sp.wkids (l.take k) x0) by rw [tk, Sp.wkids_snoc])
      obtain ⟨xk, hxk⟩ : ∃ xk, xk = Sp.wkids (l.take k) x0 := ⟨_, rfl⟩
      rw [← hxk] at hw TK LK'
      have KL := kidL_len kd hok.1
      have HWR := Lib.hid hw
      have HB := Lib.hid hb
      have k0 := hb.cell (kid_name HR.out)
      have D0 := Lib.hid (show W0.rangeAt ga (o + k * 33 + 1) (kd.2.map byteV) from fun j v hv => by
        rw [Nat.add_assoc _ 1 j]
        refine HR.out (1 + j) v ?_
        unfold kidL
        rw [Nat.add_comm 1 j, List.getElem?_cons_succ]; exact hv)
      clear hR hR0 hb hat hkd hw tk LK hxk
      go_wp2_with fail
      refine (rwtext_calls g xk (strOf kd.1) wr HWR.out (by have := LK'.out; omega) (by rw [strOf_size]; omega)).mono ?_
      rintro e w6 ⟨rfl, hw6, ho6⟩
      rw [strOf_data] at hw6
      have W6 := Lib.hid hw6
      have E6 := Lib.hid (HB.out.from' (ho6.below HG.out HB.out.size))
      have L6 := Lib.hid (show (Sp.wtext kd.1 xk).1.length ≤ 10000000000000 by have := Sp.wtext_len kd.1 xk; have := LK'.out; omega)
      have D6 := Lib.hid (show w6.rangeAt ga (o + k * 33 + 1) (kd.2.map byteV) from fun j v hv => E6.out.cell (D0.out j v hv))
      clear hw6 ho6 k0 f1
      have f1 := ((X0.out.below E6.out).cell 1).trans rfl
      go_wp2_with ((with_reducible refine at_load (t := 36) rfl ?_); refine wpList_load_mid rfl _ _ rfl ga (o + k * 33 + 1) rfl (kd.2.map byteV) _ D6.out Tryz.underlying36 rfl (by rw [List.length_map, hok.1]; kernel_rfl) ?_)
      refine (rwdigest_calls g _ kd.2 w6 hok.1 W6.out (by have := L6.out; omega)).mono ?_
      rintro e w7 ⟨rfl, t7⟩
      go_wp2
      go_roundw
      case rel => exact ⟨k + 1, by omega, by go_num, by rw [TK.out]; exact t7.wr, t7.ext HG.out E6.out⟩
      case measure => simp [intOf]; omega
    · obtain rfl : k = l.length := by omega
      rw [List.take_length, ← NN.out] at hw
      have DN := Lib.hid (rwdone_calls g (Sp.rnode n) wr hw)
      rw [NO.out] at DN
      have HB := Lib.hid hb
      clear hw hb
      go_wp2_with fail
      refine DN.out.mono ?_
      rintro e w8 ⟨rfl, hb8⟩
      go_wp2
      go_ret2
      exact ⟨rfl, E0.out.trans (HB.out.trans hb8)⟩
end Go.Proofs.YtmlfnidckfeebaaGreatDoor
