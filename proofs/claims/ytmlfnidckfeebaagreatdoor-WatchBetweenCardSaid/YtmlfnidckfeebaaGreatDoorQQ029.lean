/- Walks: the document's digest of a text. Walks: the document's digest of a text: the walk. -/
import Derived.Test.YtmlfnidckfeebaaGreatDoorQQ028
namespace Go.Proofs.YtmlfnidckfeebaaGreatDoor
open Go.RowKit
attribute [local go_sem] yUpon w_add w_xor w_and w_or w_wrap w_shl8 w_shr3 w_shr10
theorem Only.then_ext {g : Nat} {a b c : World} (h : Only g a b) (k : Below a.heap.size b c) : Only g a c :=
  ⟨k.os.trans h.os, k.tape.trans h.tape, k.output.trans h.output, Nat.le_trans h.size k.size, fun j hj hn => (k.block j hj).trans (h.block j hj hn)⟩
def wstep (x : UInt32) (c : UInt8) : UInt32 := (x <<< 8) + c.toUInt32
def part4 (b : Sp.Bs) (i : Nat) : Nat → UInt32
  | 0 => 0
  | k + 1 => wstep (part4 b i k) (b.getD (4 * i + k) 0)
theorem or_add (x y n : Nat) (h : y < 2 ^ n) : x * 2 ^ n ||| y = x * 2 ^ n + y := by
  rw [← Nat.shiftLeft_eq, Nat.shiftLeft_add_eq_or_of_lt h]
theorem or_nat (a b c d : Nat) (_ha : a < 256) (hb : b < 256) (hc : c < 256) (hd : d < 256) :
    a * 16777216 ||| b * 65536 ||| c * 256 ||| d = ((a * 256 + b) * 256 + c) * 256 + d := by
  have h1 := or_add a (b * 65536) 24 (by omega)
  rw [show (2 : Nat) ^ 24 = 16777216 from rfl] at h1
  have h2 := or_add (a * 256 + b) (c * 256) 16 (by omega)
  rw [show (2 : Nat) ^ 16 = 65536 from rfl] at h2
  have h3 := or_add ((a * 256 + b) * 256 + c) d 8 (by omega)
  rw [show (2 : Nat) ^ 8 = 256 from rfl] at h3
  rw [h1, show a * 16777216 + b * 65536 = (a * 256 + b) * 65536 by omega, h2, show (a * 256 + b) * 65536 + c * 256 = ((a * 256 + b) * 256 + c) * 256 by omega, h3]
theorem part4_be (b : Sp.Bs) (i : Nat) : part4 b i 4 = Sp.be b i := by
  have l0 := (b.getD (4 * i) 0).toNat_lt
  have l1 := (b.getD (4 * i + 1) 0).toNat_lt
  have l2 := (b.getD (4 * i + 2) 0).toNat_lt
  have l3 := (b.getD (4 * i + 3) 0).toNat_lt
  unfold Sp.be
  simp only [part4, wstep, Nat.add_zero]
  generalize b.getD (4 * i) 0 = x0 at *
  generalize b.getD (4 * i + 1) 0 = x1 at *
  generalize b.getD (4 * i + 2) 0 = x2 at *
  generalize b.getD (4 * i + 3) 0 = x3 at *
  apply UInt32.toNat_inj.1
  simp only [UInt32.toNat_or, UInt32.toNat_add, UInt32.toNat_shiftLeft, UInt8.toNat_toUInt32, Nat.shiftLeft_eq]
  rw [show (8 : UInt32).toNat % 32 = 8 from rfl, show (16 : UInt32).toNat % 32 = 16 from rfl, show (24 : UInt32).toNat % 32 = 24 from rfl, show (0 : UInt32).toNat = 0 from rfl]
  generalize x0.toNat = a at *
  generalize x1.toNat = b1 at *
  generalize x2.toNat = c at *
  generalize x3.toNat = d at *
  simp only [Nat.reducePow] at *
  rw [Nat.mod_eq_of_lt (show a * 16777216 < 4294967296 by omega), Nat.mod_eq_of_lt (show b1 * 65536 < 4294967296 by omega), Nat.mod_eq_of_lt (show c * 256 < 4294967296 by omega), or_nat a b1 c d (by omega) (by omega) (by omega) (by omega)]
  omega
theorem digest_getD : ∀ (h : List UInt32) (i : Nat), i < 4 * h.length → (Sp.digest h).getD i 0 = UInt8.ofNat ((h.getD (i / 4) 0).toNat / 2 ^ (24 - 8 * (i % 4)))
  | [], i, hi => by simp at hi
  | x :: r, i, hi => by
    rw [show Sp.digest (x :: r) = [UInt8.ofNat (x.toNat / 16777216), UInt8.ofNat (x.toNat / 65536), UInt8.ofNat (x.toNat / 256), UInt8.ofNat x.toNat] ++ Sp.digest r from rfl]
    rcases i with _ | _ | _ | _ | i
    · rfl
    · rfl
    · rfl
    · show UInt8.ofNat x.toNat = UInt8.ofNat (x.toNat / 1)
      rw [Nat.div_one]
    · have ih := digest_getD r i (by simp at hi; omega)
      rw [show (i + 1 + 1 + 1 + 1) / 4 = i / 4 + 1 by omega, show (i + 1 + 1 + 1 + 1) % 4 = i % 4 by omega]
      exact ih
theorem byte_cell {w : World} {ga oa : Nat} {p : Sp.Bs} (h : Cells w (some ⟨ga, oa, none⟩) (p.map byteV)) (q : Nat) (hq : q < p.length) : ∃ x : UInt32, x = (p.getD q 0).toUInt32 ∧ w.cell? ⟨ga, oa + q, none⟩ = some (.int .u8 (wd x)) := by
  obtain ⟨x, hx, _, hc⟩ := byte_word p q hq
  refine ⟨x, hx, ?_⟩
  obtain ⟨g, o, hA, hcs⟩ := h (by intro e; rw [List.map_eq_nil_iff] at e; rw [e] at hq; simp at hq)
  cases hA
  refine hcs q _ ?_
  rw [← hc]
  simp [digC]
theorem be_take (p : Sp.Bs) (m i k : Nat) (hk : k < 4) (hi : i < 16) (_hm : 64 * m + 64 ≤ p.length) : ((p.drop (64 * m)).take 64).getD (4 * i + k) 0 = p.getD (64 * m + (4 * i + k)) 0 := by
  rw [List.getD_eq_getElem?_getD, List.getElem?_take, if_pos (by omega), List.getElem?_drop, List.getD_eq_getElem?_getD]
end Go.Proofs.YtmlfnidckfeebaaGreatDoor
namespace Go.Proofs.YtmlfnidckfeebaaGreatDoor
open Go.RowKit
attribute [local go_sem] yUpon w_add w_xor w_and w_or w_wrap w_shl8 w_shr3 w_shr10
set_option maxRecDepth 100000 in
set_option maxHeartbeats 8000000 in
theorem rsha_calls (l : Sp.Bs) (w : World) (hl : l.length ≤ 4000000000) (K : KeysAt w 0) :
    Calls Tryz.prog 147 #[.string (strOf l)] w fun e w' => e = .returned (digV (Sp.sha l)) ∧ Ext w w' := by
  have hds := digC_size (Sp.sha l)
  have hsl := Sp.sha_len l
  obtain ⟨arr, ha⟩ : ∃ arr, arr = digC (Sp.sha l) := ⟨_, rfl⟩
  have HA := Lib.hid ha
  rw [← ha] at hds
  have w1 : arr.all (·.oneCell') = true := by rw [ha]; exact all_oneCell_toArray (bytes_one _)
  clear ha
  have tok2 : True := trivial
  rw [show digV (Sp.sha l) = .agg (digC (Sp.sha l)) from rfl, ← HA.out]
  go_enter Tryz.func147, Tryz.ntmps147
  go_wp2_with (have _t2 := tok2; ((with_reducible refine at_alloc (t := 36) rfl ?_); refine box_new rfl (cs := zero32) (t := 36) (by first | (go_simp; done) | (go_simp; rfl)) ?_; intro g2 w2 hg2 hx2 hb2; have H2 := Lib.hid hx2; have B2 := Lib.hid hb2; have GG2 := Lib.hid hg2; clear tok2 _t2 hx2 hb2 hg2))
  refine (rpad_calls l _ hl).mono ?_
  rintro e W0 ⟨A, cap, rfl, hp, hb⟩
  obtain ⟨g3, hg3⟩ : ∃ g3, g3 = w2.heap.size := ⟨_, rfl⟩
  have X3 := (box_at w2 #[wordV 1779033703, wordV 3144134277, wordV 1013904242, wordV 2773480762, wordV 1359893119, wordV 2600822924, wordV 528734635, wordV 1541459225] 272).below hb
  rw [← hg3] at X3 ⊢
  have E0 := Lib.hid (show Ext w W0 from (Ext.trans B2.out (Ext.alloc _ _)).trans hb)
  have H20 := Lib.hid (H2.out.below ((Ext.alloc _ _).trans hb))
  have N23 := Lib.hid (show g2 ≠ g3 by have := H2.out.lt; omega)
  have G3 := Lib.hid (show w.heap.size ≤ g3 by have := B2.out.size; omega)
  have L3 := Lib.hid (show g3 < W0.heap.size from X3.lt)
  have AB := Lib.hid (show ∀ a, A = some a → a.block ≠ g3 by
    intro a ha
    obtain ⟨_, g, c, cur, fz, he, hbg, _⟩ := hp
    cases he; cases ha
    rw [World.size_alloc] at hbg
    show g ≠ g3
    omega)
  have PC := Lib.hid (show Cells W0 A ((Sp.pad l).map byteV) by
    obtain ⟨A9, c9, he, _, _, hc, _⟩ := hp.read
    cases he
    exact hc)
  have XH := Lib.hid (show isBlk W0 g3 272 (wordsC (Sp.mixN 0 Sp.start (Sp.pad l))) from X3)
  have SH := Lib.hid (show Sp.sha l = Sp.digest (Sp.mixN ((Sp.pad l).length / 64) Sp.start (Sp.pad l)) from rfl)
  have PL := Lib.hid (Sp.pad_len l)
  have pmax : (Sp.pad l).length ≤ 4000000200 := by
    have := Sp.padding_len l.length l.length
    unfold Sp.pad; rw [List.length_append, this]; omega
  obtain ⟨p, hpp⟩ : ∃ p, p = Sp.pad l := ⟨_, rfl⟩
  rw [← hpp] at SH PL XH PC pmax ⊢
  clear hpp hp hb X3 hg3
  obtain ⟨L, hL⟩ : ∃ L, L = p.length := ⟨_, rfl⟩
  rw [← hL] at PL pmax SH ⊢
  have HL := Lib.hid hL
  clear hL
  go_wp2_with fail
  go_loopw [5] (fun v5 wr => ∃ m a : Nat, 64 * m ≤ L ∧ a = 64 * m ∧ v5 = .int .i64 a ∧ isBlk wr g3 272 (wordsC (Sp.mixN m Sp.start p)) ∧ Only g3 W0 wr) (fun v5 _ => L - (intOf v5).toNat)
  case atStart => exact ⟨0, 0, by omega, rfl, rfl, XH.out, Only.refl _ _⟩
  case round =>
    obtain ⟨m, a, hm, ham, rfl, hx, ho⟩ := hrel
    by_cases hlt : a < L
    · have hm1 : 64 * m + 64 ≤ L := by have := PL.out; omega
      obtain ⟨blk, hblk⟩ : ∃ blk, blk = (p.drop (64 * m)).take 64 := ⟨_, rfl⟩
      obtain ⟨wo, hwo⟩ : ∃ wo, wo = wr := ⟨_, rfl⟩
      rw [← hwo] at hx ho ⊢
      clear hwo
      have HBK := Lib.hid hblk
      have HAM := Lib.hid ham
      have HX := Lib.hid hx
      have HO := Lib.hid ho
      have hm1' := Lib.hid hm1
      have abig : a ≤ 4000000200 := by omega
      have tok6 : True := trivial
      have tok7 : True := trivial
      clear hblk ham hx ho hm hm1
      go_wp2_with (first
        | (have _t6 := tok6; ((with_reducible refine at_alloc (t := 274) rfl ?_); refine box_new rfl (cs := zero64) (t := 274) (by first | (go_simp; done) | (go_simp; rfl)) ?_; intro g6 w6 hg6 hx6 hb6; have Y6 := Lib.hid hx6; have C6 := Lib.hid hb6; have G6 := Lib.hid hg6; clear tok6 _t6 hx6 hb6 hg6))
        | (have _t7 := tok7; ((with_reducible refine at_store (t := 274) rfl ?_); refine wpList_store_row rfl _ _ _ rfl g6 zero64 rfl rfl 274 _ Y6.out (by kernel_rfl) (by kernel_rfl) (wordsC_one _) ?_; clear tok7 _t7)))
      obtain ⟨w7, hw7⟩ : ∃ w7, w7 = w6.setRow g6 zero64 := ⟨_, rfl⟩
      rw [← hw7]
      have B6 := Lib.hid (show Ext wo w7 by rw [hw7]; exact below_setRow C6.out G6.out _)
      have X6 := Lib.hid (show isBlk w7 g6 274 zero64 by rw [hw7]; exact setRow_heap _ _ _ _ _ _ Y6.out)
      clear hw7
      have P6 := Lib.hid ((PC.out.only AB.out HO.out).ext B6.out)
      obtain ⟨ga, oa, hA, _⟩ := P6.out (by intro e; have h0 := HL.out; rw [List.map_eq_nil_iff] at e; rw [e] at h0; simp at h0; omega)
      subst hA
      have NA := Lib.hid (show ga ≠ g6 by
        obtain ⟨g, o, hA, hc⟩ := (PC.out.only AB.out HO.out) (by intro e; have h0 := HL.out; rw [List.map_eq_nil_iff] at e; rw [e] at h0; simp at h0; omega)
        cases hA
        have h0 : 0 < p.length := by have := HL.out; omega
        have h1 : (p.map byteV)[0]? = some (byteV p[0]) := by simp [h0]
        have := cell_lt (hc 0 _ h1)
        have := G6.out
        omega)
      have BL := Lib.hid (show blk.length = 64 by rw [HBK.out, List.length_take, List.length_drop]; have := hm1'.out; have := HL.out; omega)
      go_loopw [7] (fun v7 wr => ∃ k : Nat, k ≤ 16 ∧ v7 = .int .i64 k ∧ isBlk wr g6 274 (wordsC (Sp.first blk k ++ List.replicate (64 - k) 0)) ∧ Only g6 w7 wr) (fun v7 _ => 16 - (intOf v7).toNat)
      case atStart => exact ⟨0, by decide, rfl, X6.out, Only.refl _ _⟩
      case round =>
        obtain ⟨i, hi, rfl, hx, ho⟩ := hrel
        by_cases hlt16 : i < 16
        · have ZX := Lib.hid (show isBlk wr g6 274 (wordsC (Sp.first blk i ++ part4 blk i 0 :: List.replicate (63 - i) 0)) by
            rw [show (part4 blk i 0 :: List.replicate (63 - i) 0) = List.replicate (64 - i) 0 by
              rw [show 64 - i = (63 - i) + 1 by omega, List.replicate_succ]; rfl]
            exact hx)
          have ZO := Lib.hid ho
          have t16 : (i : Int) < 16 := by omega
          clear hx ho
          go_wp2_with fail
          go_loopw [8] (fun v8 wr => ∃ k : Nat, k ≤ 4 ∧ v8 = .int .i64 k ∧ isBlk wr g6 274 (wordsC (Sp.first blk i ++ part4 blk i k :: List.replicate (63 - i) 0)) ∧ Only g6 w7 wr) (fun v8 _ => 4 - (intOf v8).toNat)
          case atStart => exact ⟨0, by decide, rfl, ZX.out, ZO.out⟩
          case round =>
            obtain ⟨k, hk, rfl, hx, ho⟩ := hrel
            by_cases hlt4 : k < 4
            · obtain ⟨s1, hs1⟩ : ∃ s1, s1 = 4 * i := ⟨_, rfl⟩
              obtain ⟨s2, hs2⟩ : ∃ s2, s2 = a + s1 := ⟨_, rfl⟩
              obtain ⟨q, hq⟩ : ∃ q, q = s2 + k := ⟨_, rfl⟩
              have q1 : IntKind.i64.wrap (4 * (i : Int)) = (s1 : Int) := by rw [IntWalk.i64_in _ (by omega)]; omega
              have q2 : IntKind.i64.wrap ((a : Int) + (s1 : Int)) = (s2 : Int) := by rw [IntWalk.i64_in _ (by omega)]; omega
              have q3 : IntKind.i64.wrap ((s2 : Int) + (k : Int)) = (q : Int) := by rw [IntWalk.i64_in _ (by omega)]; omega
              have hqL : q < L := by have := hm1'.out; have := HAM.out; omega
              have b1 : (q : Int) < (L : Int) := by omega
              have b2 : (i : Int) < 64 := by omega
              have hPW := P6.out.only (fun a ha => by cases ha; exact NA.out) ho
              obtain ⟨cx, hcx, cc⟩ := byte_cell hPW q (by have := HL.out; omega)
              have PS := Lib.hid (show part4 blk i (k + 1) = part4 blk i k <<< 8 + cx by
                rw [hcx]
                show wstep (part4 blk i k) (blk.getD (4 * i + k) 0) = _
                unfold wstep
                rw [HBK.out, be_take p m i k hlt4 hlt16 (by have := hm1'.out; have := HL.out; omega), hq, hs2, hs1, HAM.out, Nat.add_assoc])
              have fl := Sp.first_len blk i
              have kx := (hx.cell i).trans (wordsC_get _ i (by simp [fl]))
              rw [show (Sp.first blk i ++ part4 blk i k :: List.replicate (63 - i) 0).getD i 0 = part4 blk i k by
                rw [List.getD_eq_getElem?_getD, List.getElem?_append_right (by omega), fl, Nat.sub_self]; rfl] at kx
              have st := set_mid (Sp.first blk i) (part4 blk i (k + 1)) (part4 blk i k) (List.replicate (63 - i) 0)
              rw [fl] at st
              obtain ⟨x, hxx⟩ : ∃ x, x = part4 blk i k := ⟨_, rfl⟩
              rw [← hxx] at kx PS
              have ST := Lib.hid st
              have HX' := Lib.hid hx
              have HO' := Lib.hid ho
              have KX := Lib.hid kx
              have CC := Lib.hid cc
              clear hcx hx ho kx st hPW cc hq hs2 hs1 hxx fl
              go_wp2_with fail
              refine wp_region_det_tail (fun W => Ext wr W) 16 (by kernel_rfl) (by kernel_rfl) (Ext.refl _).drew ?_
              simp only [List.take_succ_cons, List.take_zero, List.drop_succ_cons, List.drop_zero]
              repeat (first
                | (refine det_step (fun K hK => ?_)
                   apply Exists.intro
                   refine ⟨Or.inl ⟨rfl, fun W hS => ?_⟩, ?_⟩
                   · have hz : Ext wr W := hS; have f0 := hz.cell KX.out; have f1 := hz.cell CC.out
                     go_simp
                     first
                     | exact rfl
                     | exact ⟨rfl, hS⟩
                     | (fail)
                   go_simp
                   refine hK _ ?_
                   clear hK K)
                | (refine det_step (fun K hK => ?_); refine det_no' rfl ?_; go_simp; refine hK _ ?_; clear hK K))
              refine det_nil ?_
              intro W hS
              replace hS : Ext wr W := hS
              have g0 := hS.cell KX.out
              have hxW := HX'.out.below hS
              have g1 := hxW.frozen i
              have HXW := Lib.hid hxW
              have HOW := Lib.hid (HO'.out.trans (Only.of_below g6 hS))
              clear hxW hS
              go_wp2_with fail
              go_roundw
              case rel =>
                refine ⟨k + 1, by omega, by go_num, ?_, HOW.out.trans (Only.set _ _ _ _)⟩
                have := HXW.out.put i (wordV (x <<< 8 + cx)) rfl
                rw [wordsC_set, ← PS.out, ST.out, PS.out] at this
                rw [PS.out]
                exact this
              case measure => simp [intOf]; omega
            · obtain rfl : k = 4 := by omega
              have fs := first_succ blk i
              have hx' : isBlk wr g6 274 (wordsC (Sp.first blk (i + 1) ++ List.replicate (64 - (i + 1)) 0)) := by
                rw [fs, show 64 - (i + 1) = 63 - i by omega, ← part4_be, List.append_assoc]; exact hx
              have HX' := Lib.hid hx'
              have HO' := Lib.hid ho
              clear hx hx' ho fs
              go_wp2_with fail
              refine ⟨⟨i + 1, by omega, by go_num, HX'.out, HO'.out⟩, by simp [intOf]; omega⟩
        · obtain rfl : i = 16 := by omega
          rw [show ((16 : Nat) : Int) = 16 from rfl]
          have ZX := Lib.hid hx
          have ZO := Lib.hid ho
          clear hx ho
          go_wp2_with fail
          go_loopw [9] (fun v9 wr => ∃ n i : Nat, n ≤ 48 ∧ i = 16 + n ∧ v9 = .int .i64 i ∧ isBlk wr g6 274 (wordsC (Sp.sched blk n ++ List.replicate (48 - n) 0)) ∧ Only g6 w7 wr) (fun v9 _ => 64 - (intOf v9).toNat)
          case atStart => exact ⟨0, 16, by decide, rfl, rfl, ZX.out, ZO.out⟩
          case round =>
            obtain ⟨n, i, hn, hi16, rfl, hx, ho⟩ := hrel
            by_cases hltn : i < 64
            · have ln := Sp.sched_len blk n
              obtain ⟨j16, h16⟩ : ∃ j, j = i - 16 := ⟨_, rfl⟩
              obtain ⟨j15, h15⟩ : ∃ j, j = i - 15 := ⟨_, rfl⟩
              obtain ⟨j7, h7⟩ : ∃ j, j = i - 7 := ⟨_, rfl⟩
              obtain ⟨j2, h2⟩ : ∃ j, j = i - 2 := ⟨_, rfl⟩
              have q16 : IntKind.i64.wrap ((i : Int) - 16) = (j16 : Int) := by rw [IntWalk.i64_in _ (by omega)]; omega
              have q15 : IntKind.i64.wrap ((i : Int) - 15) = (j15 : Int) := by rw [IntWalk.i64_in _ (by omega)]; omega
              have q7 : IntKind.i64.wrap ((i : Int) - 7) = (j7 : Int) := by rw [IntWalk.i64_in _ (by omega)]; omega
              have q2 : IntKind.i64.wrap ((i : Int) - 2) = (j2 : Int) := by rw [IntWalk.i64_in _ (by omega)]; omega
              have cellAt : ∀ j, j < i → (wordsC (Sp.sched blk n ++ List.replicate (48 - n) 0))[j]? = some (wordV ((Sp.sched blk n).getD j 0)) := fun j hj => by
                rw [wordsC_get _ j (by rw [List.length_append, List.length_replicate, ln]; omega), List.getD_eq_getElem?_getD, List.getElem?_append_left (by rw [ln]; omega), List.getD_eq_getElem?_getD]
              have k16 := cellAt j16 (by omega)
              have k15 := cellAt j15 (by omega)
              have k7 := cellAt j7 (by omega)
              have k2 := cellAt j2 (by omega)
              have nx : Sp.next (Sp.sched blk n) = (Sp.sched blk n).getD j16 0 + Sp.lowS ((Sp.sched blk n).getD j15 0) + (Sp.sched blk n).getD j7 0 + Sp.highS ((Sp.sched blk n).getD j2 0) := by
                unfold Sp.next; rw [ln, h16, h15, h7, h2, hi16]
              obtain ⟨x16, y16⟩ : ∃ x, x = (Sp.sched blk n).getD j16 0 := ⟨_, rfl⟩
              obtain ⟨x15, y15⟩ : ∃ x, x = (Sp.sched blk n).getD j15 0 := ⟨_, rfl⟩
              obtain ⟨x7, y7⟩ : ∃ x, x = (Sp.sched blk n).getD j7 0 := ⟨_, rfl⟩
              obtain ⟨x2, y2⟩ : ∃ x, x = (Sp.sched blk n).getD j2 0 := ⟨_, rfl⟩
              rw [← y16] at k16 nx
              rw [← y15] at k15 nx
              rw [← y7] at k7 nx
              rw [← y2] at k2 nx
              have b0 : (i : Int) < 64 := by omega
              have b16 : (j16 : Int) < 64 := by omega
              have b15 : (j15 : Int) < 64 := by omega
              have b7 : (j7 : Int) < 64 := by omega
              have b2 : (j2 : Int) < 64 := by omega
              have HI := Lib.hid hi16
              have NX := Lib.hid nx
              have HX' := Lib.hid hx
              have HO' := Lib.hid ho
              clear h16 h15 h7 h2 y16 y15 y7 y2 cellAt hi16 nx ln hx ho
              go_wp2_with fail
              refine wp_region_det_tail (fun W => Ext wr W) 46 (by kernel_rfl) (by kernel_rfl) (Ext.refl _).drew ?_
              simp only [List.take_succ_cons, List.take_zero, List.drop_succ_cons, List.drop_zero]
              repeat (first
                | (refine det_step (fun K hK => ?_)
                   apply Exists.intro
                   refine ⟨Or.inl ⟨rfl, fun W hS => ?_⟩, ?_⟩
                   · have hz : Ext wr W := hS; have z := HX'.out.below hz; have f0 := (z.cell j16).trans k16; have f1 := (z.cell j7).trans k7; have f2 := (z.cell j15).trans k15; have f3 := (z.cell j2).trans k2
                     go_simp
                     first
                     | exact rfl
                     | exact ⟨rfl, hS⟩
                     | (refine (rturn_calls _ _ W (by decide)).mono ?_; rintro e w1 ⟨rfl, rfl⟩; exact ⟨rfl, hz⟩)
                   go_simp
                   refine hK _ ?_
                   clear hK K)
                | (refine det_step (fun K hK => ?_); refine det_no' rfl ?_; go_simp; refine hK _ ?_; clear hK K))
              refine det_nil ?_
              intro W hS
              replace hS : Ext wr W := hS
              have ln := Sp.sched_len blk n
              have hxW := HX'.out.below hS
              have g0 := (hxW.cell i).trans (wordsC_get _ i (by rw [List.length_append, List.length_replicate, ln]; have := HI.out; omega))
              have g1 := hxW.frozen i
              have HXW := Lib.hid hxW
              have HOW := Lib.hid (HO'.out.trans (Only.of_below g6 hS))
              clear hxW ln k16 k15 k7 k2 hS
              go_wp2_with fail
              go_roundw
              case rel =>
                refine ⟨n + 1, i + 1, by have := HI.out; omega, by rw [HI.out]; omega, by go_num, ?_, HOW.out.trans (Only.set _ _ _ _)⟩
                have := HXW.out.put i (wordV (x16 + (Sp.rotr x15 7 ^^^ Sp.rotr x15 18 ^^^ x15 >>> 3) + x7 + (Sp.rotr x2 17 ^^^ Sp.rotr x2 19 ^^^ x2 >>> 10))) rfl
                rw [wordsC_set] at this
                have fs := fill_step (Sp.sched blk n) (Sp.next (Sp.sched blk n)) 64 (by rw [Sp.sched_len]; have := HI.out; omega)
                rw [show Sp.sched blk n ++ [Sp.next (Sp.sched blk n)] = Sp.sched blk (n + 1) from rfl, Sp.sched_len, Sp.sched_len, ← HI.out, show 64 - i = 48 - n by rw [HI.out]; omega, show 64 - (16 + (n + 1)) = 48 - (n + 1) by omega, NX.out] at fs
                unfold Sp.lowS Sp.highS at fs
                rw [fs] at this
                exact this
              case measure => simp [intOf]; omega
            · obtain rfl : n = 48 := by omega
              obtain rfl : i = 64 := by omega
              rw [show ((64 : Nat) : Int) = 64 from rfl]
              have hx' : isBlk wr g6 274 (wordsC (Sp.sched blk 48)) := by simpa using hx
              have sl := Sp.sched_len blk 48
              obtain ⟨S, hS⟩ : ∃ S, S = Sp.sched blk 48 := ⟨_, rfl⟩
              rw [← hS] at hx' sl
              obtain ⟨H, hH⟩ : ∃ H, H = Sp.mixN m Sp.start p := ⟨_, rfl⟩
              have hl8 : H.length = 8 := by rw [hH]; exact Sp.mixN_len _ _ _ rfl
              have MX := Lib.hid (show List.zipWith (· + ·) (Sp.rnds S H 64) H = Sp.mixN (m + 1) Sp.start p by
                rw [Sp.mixN_snoc, ← HBK.out, ← hH, hS]; rfl)
              have MXL := Lib.hid (show (List.zipWith (· + ·) (Sp.rnds S H 64) H).length = 8 by rw [MX.out]; exact Sp.mixN_len _ _ _ rfl)
              obtain ⟨S6, hS6⟩ : ∃ S6, S6 = wordsC S := ⟨_, rfl⟩
              obtain ⟨H8, hH8⟩ : ∃ H8, H8 = wordsC H := ⟨_, rfl⟩
              obtain ⟨N8, hN8⟩ : ∃ N8, N8 = wordsC (List.zipWith (· + ·) (Sp.rnds S H 64) H) := ⟨_, rfl⟩
              have ws6 : S6.size = 64 := by rw [hS6, wordsC_size, sl]
              have wh8 : H8.size = 8 := by rw [hH8, wordsC_size, hl8]
              have wn8 : N8.size = 8 := by rw [hN8, wordsC_size, MXL.out]
              have on8 : N8.all (·.oneCell') = true := by rw [hN8]; exact wordsC_one _
              have h36 : g3 ≠ g6 := by have := HX.out.lt; have := G6.out; omega
              have HG := Lib.hid (show isBlk wr g3 272 H8 by rw [hH8, hH]; exact ho.blk (HX.out.below B6.out) h36)
              have HS6 := Lib.hid (show isBlk wr g6 274 S6 by rw [hS6]; exact hx')
              have EW := Lib.hid (show Below W0.heap.size wo wr from (B6.out.mono HO.out.size).trans (ho.below (by have := HO.out.size; have := G6.out; omega) (by have := B6.out.size; have := HO.out.size; omega)))
              have KR := Lib.hid (K.ext (E0.out.from' ((HO.out.then_ext EW.out).below G3.out E0.out.size)))
              have RC := Lib.hid (rround_calls H S wr hl8 sl KR.out)
              rw [← hS6, ← hH8, ← hN8] at RC
              have HN8 := Lib.hid hN8
              have NG := Lib.hid h36
              clear hx hx' ho hS hH hS6 hH8 hN8 h36
              go_wp2_with (first
                | ((with_reducible refine at_load (t := 272) rfl ?_); refine wpList_load_row rfl _ _ rfl g3 rfl 272 H8 (0, 0) _ HG.out Tryz.underlying272 rfl (by rw [wh8]; kernel_rfl) ?_)
                | ((with_reducible refine at_load (t := 274) rfl ?_); refine wpList_load_row rfl _ _ rfl g6 rfl 274 S6 (0, 0) _ HS6.out Tryz.underlying274 rfl (by rw [ws6]; kernel_rfl) ?_))
              refine RC.out.mono ?_
              rintro e w8 ⟨rfl, hb8⟩
              have HG8 := Lib.hid (HG.out.below hb8)
              have B8 := Lib.hid (EW.out.trans (hb8.mono (by have := EW.out.size; have := HO.out.size; omega)))
              go_wp2_with ((with_reducible refine at_store (t := 272) rfl ?_); refine wpList_store_row rfl _ _ _ rfl g3 N8 rfl rfl 272 _ HG8.out (by rw [wn8]; kernel_rfl) (by rw [wh8, wn8]) on8 ?_)
              refine ⟨⟨m + 1, a + 64, by have := hm1'.out; omega, by have := HAM.out; omega, by go_num, ?_, (HO.out.then_ext B8.out).trans (Only.setRow _ _ _)⟩, by simp [intOf]; omega⟩
              rw [← MX.out, ← HN8.out]
              exact setRow_heap _ _ _ _ _ _ HG8.out
    · have hmL : m = L / 64 := by have := PL.out; omega
      obtain ⟨H, hH⟩ : ∃ H, H = Sp.mixN m Sp.start p := ⟨_, rfl⟩
      have hl8 : H.length = 8 := by rw [hH]; exact Sp.mixN_len _ _ _ rfl
      have SD := Lib.hid (show Sp.sha l = Sp.digest H by rw [SH.out, hH, hmL])
      rw [← hH] at hx
      have HX := Lib.hid hx
      have HO := Lib.hid ho
      have tokd : True := trivial
      have toks : True := trivial
      clear hH hx ho hm ham
      go_wp2_with (first
        | (have _t6 := tokd; ((with_reducible refine at_alloc (t := 36) rfl ?_); refine box_new rfl (cs := zero32) (t := 36) (by first | (go_simp; done) | (go_simp; rfl)) ?_; intro g6 w6 hg6 hx6 hb6; have Y6 := Lib.hid hx6; have C6 := Lib.hid hb6; have G6 := Lib.hid hg6; clear tokd _t6 hx6 hb6 hg6))
        | (have _t7 := toks; ((with_reducible refine at_store (t := 36) rfl ?_); refine wpList_store_row rfl _ _ _ rfl g6 zero32 rfl rfl 36 _ Y6.out (by kernel_rfl) (by kernel_rfl) (by kernel_rfl) ?_; clear toks _t7)))
      obtain ⟨w7, hw7⟩ : ∃ w7, w7 = w6.setRow g6 zero32 := ⟨_, rfl⟩
      rw [← hw7]
      have B6 := Lib.hid (show Ext wr w7 by rw [hw7]; exact below_setRow C6.out G6.out _)
      have X6 := Lib.hid (show isBlk w7 g6 36 zero32 by rw [hw7]; exact setRow_heap _ _ _ _ _ _ Y6.out)
      have X3 := Lib.hid (HX.out.below B6.out)
      have N36 := Lib.hid (show g3 ≠ g6 by have := HX.out.lt; have := G6.out; omega)
      have N26 := Lib.hid (show g2 ≠ g6 by have := H20.out.lt; have := HO.out.size; have := G6.out; omega)
      have X2 := Lib.hid ((HO.out.blk H20.out N23.out).below B6.out)
      have E7 := Lib.hid (show Ext w w7 from E0.out.from' ((HO.out.then_ext (B6.out.mono HO.out.size)).below G3.out E0.out.size))
      have GW := Lib.hid (show w.heap.size ≤ g6 by have := E0.out.size; have := HO.out.size; have := G6.out; omega)
      clear hw7
      go_loopw [11] (fun v11 wr => ∃ i : Nat, i ≤ 32 ∧ v11 = .int .i64 i ∧ isBlk wr g6 36 (digC ((Sp.digest H).take i ++ List.replicate (32 - i) 0)) ∧ Only g6 w7 wr) (fun v11 _ => 32 - (intOf v11).toNat)
      case atStart => exact ⟨0, by decide, rfl, X6.out, Only.refl _ _⟩
      case round =>
        obtain ⟨i, hi, rfl, hx, ho⟩ := hrel
        have dl : (Sp.digest H).length = 32 := by rw [Sp.digest_len, hl8]
        by_cases hlt32 : i < 32
        · obtain ⟨q, hq⟩ : ∃ q, q = i / 4 := ⟨_, rfl⟩
          obtain ⟨r, hr⟩ : ∃ r, r = i % 4 := ⟨_, rfl⟩
          obtain ⟨e, he⟩ : ∃ e, e = 24 - 8 * r := ⟨_, rfl⟩
          have q1 : (i : Int) / 4 = (q : Int) := by omega
          have q2 : (i : Int) % 4 = (r : Int) := by omega
          have q1' : Int.tdiv (i : Int) 4 = (q : Int) := by rw [Int.tdiv_eq_ediv_of_nonneg (by omega)]; omega
          have q2' : Int.tmod (i : Int) 4 = (r : Int) := by rw [Int.tmod_eq_emod_of_nonneg (by omega)]; omega
          have e1 : 24 - 8 * (r : Int) = (e : Int) := by omega
          have e2 : IntKind.u64.wrap (e : Int) = (e : Int) := by rw [IntKind.wrap_u64]; omega
          have e3 : min e 32 = e := by omega
          have e4 : min e 64 = e := by omega
          have kq := (ho.blk X3.out N36.out).cell q
          replace kq := kq.trans (wordsC_get H q (by omega))
          have gd := digest_getD H i (by omega)
          rw [← hq, ← hr, ← he] at gd
          obtain ⟨x, hxx⟩ : ∃ x, x = H.getD q 0 := ⟨_, rfl⟩
          rw [← hxx] at kq gd
          obtain ⟨c, hc⟩ : ∃ c, c = UInt8.ofNat (x.toNat / 2 ^ e) := ⟨_, rfl⟩
          have e5 : wd x / 2 ^ e % 256 = (c.toNat : Int) := by rw [hc, UInt8.toNat_ofNat']; unfold wd; norm_cast
          have bq : (q : Int) < 8 := by omega
          have bi : (i : Int) < 32 := by omega
          have tk := List.take_succ_eq_append_getElem (show i < (Sp.digest H).length by omega)
          have tg : (Sp.digest H)[i] = c := by
            rw [hc, ← gd, List.getD_eq_getElem?_getD, List.getElem?_eq_getElem (by omega)]; rfl
          rw [tg] at tk
          have st : ((Sp.digest H).take i ++ List.replicate (32 - i) 0).set i c = (Sp.digest H).take (i + 1) ++ List.replicate (32 - (i + 1)) 0 := by
            rw [tk, show 32 - i = (32 - (i + 1)) + 1 by omega, List.replicate_succ, List.append_assoc]
            have := set_mid ((Sp.digest H).take i) c 0 (List.replicate (32 - (i + 1)) (0 : UInt8))
            rw [show ((Sp.digest H).take i).length = i by rw [List.length_take, dl]; omega] at this
            exact this
          obtain ⟨u, kc⟩ : ∃ u : Int, wr.cell? ⟨g6, i, none⟩ = some (.int .u8 u) := ⟨_, (hx.cell i).trans (digC_get _ i (by rw [List.length_append, List.length_take, List.length_replicate, dl]; omega))⟩
          have kf := hx.frozen i
          have ST := Lib.hid st
          have HX' := Lib.hid hx
          have HO' := Lib.hid ho
          clear hx ho st tk tg gd hq hr he hxx hc dl
          go_wp2_with fail
          go_roundw
          case rel =>
            refine ⟨i + 1, by omega, by go_num, ?_, HO'.out.trans (Only.set _ _ _ _)⟩
            have := HX'.out.put i (.int .u8 c.toNat) rfl
            rw [digC_set, ST.out] at this
            exact this
          case measure => simp [intOf]; omega
        · obtain rfl : i = 32 := by omega
          rw [show ((32 : Nat) : Int) = 32 from rfl]
          have HX' := Lib.hid (show isBlk wr g6 36 arr by
            rw [HA.out, SD.out]
            rwa [List.take_of_length_le (by omega), Nat.sub_self, List.replicate_zero, List.append_nil] at hx)
          have X2' := Lib.hid (ho.blk X2.out N26.out)
          have HO' := Lib.hid ho
          clear hx ho
          go_wp2_with (first
            | ((with_reducible refine at_load (t := 36) rfl ?_); refine wpList_load_row rfl _ _ rfl g6 rfl 36 arr (0, 0) _ HX'.out Tryz.underlying36 rfl (by rw [hds, hsl]; kernel_rfl) ?_)
            | ((with_reducible refine at_store (t := 36) rfl ?_); refine wpList_store_row rfl _ _ _ rfl g2 arr rfl rfl 36 _ X2'.out (by rw [hds, hsl]; kernel_rfl) (by rw [hds, hsl]; rfl) w1 ?_))
          refine bodyPost_ret (results_cell_row rfl _ _ g2 36 arr (0, 0) _ rfl (setRow_heap _ _ _ _ _ _ X2'.out) Tryz.underlying36 rfl (by rw [hds, hsl]; kernel_rfl)) rfl ?_
          exact ⟨rfl, below_setRow (E7.out.from' (HO'.out.below GW.out E7.out.size)) GG2.out _⟩
end Go.Proofs.YtmlfnidckfeebaaGreatDoor
