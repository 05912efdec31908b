/- Walks: the document's digests. Walks: the document's digest of a text. -/
import Derived.Test.YtmlfnidckfeebaaGreatDoorRF009
namespace Go.Proofs.YtmlfnidckfeebaaGreatDoor
open Go.RowKit
attribute [local go_sem] yUpon w_add w_xor w_and w_or w_wrap w_not
set_option maxRecDepth 100000 in
set_option maxHeartbeats 4000000 in
theorem rpad_calls (l : Sp.Bs) (w : World) (hl : l.length ≤ 4000000000) :
    Calls Tryz.prog 223 #[.string (strOf l)] w fun e w' => ∃ A cap, e = .returned (.slice A (Sp.pad l).length cap) ∧ OwnT w' w.heap.size 5 (.slice A (Sp.pad l).length cap) (Sp.pad l).length ((Sp.pad l).map byteV) ∧ Ext w w' := by
  have hsz := strOf_size l
  obtain ⟨B, hB⟩ : ∃ B, B = w.heap.size := ⟨_, rfl⟩
  have HB := Lib.hid hB
  obtain ⟨r, hr⟩ : ∃ r, r = l.length := ⟨_, rfl⟩
  have HR := Lib.hid hr
  rw [← hr] at hsz
  obtain ⟨Z, hZ⟩ : ∃ Z, Z = (119 - r % 64) % 64 := ⟨_, rfl⟩
  have HZ := Lib.hid hZ
  have hr4 : r ≤ 4000000000 := by omega
  have HL := Lib.hid (show l.length ≤ maxLen by unfold maxLen; omega)
  clear hB hr hZ
  have tok2 : True := trivial
  have tok3 : True := trivial
  go_enter Tryz.func223, Tryz.ntmps223
  go_wp2_with (first
    | (have _t2 := tok2; refine conv_bytes rfl rfl Tryz.underlying9 Tryz.underlying172 Tryz.underlying5 l rfl HL.out ?_; intro v2 w2 ho2 hb2; rw [← HB.out, ← HR.out] at ho2; obtain ⟨A2, c2, rfl, _, _, _, ho2'⟩ := ho2.read; have O2 := Lib.hid ho2'; have B2 := Lib.hid hb2; clear tok2 _t2 ho2 ho2' hb2)
    | (have _t3 := tok3; at_builtin; refine app_newT appU8 rfl _ _ rfl B _ r _ rfl O2.out (.int .u8 128) 5 rfl rfl (by omega) (by rw [HB.out]; exact B2.out.size) ?_; intro v3 w3 ho3 hb3; obtain ⟨A3, c3, rfl, _, _, _, ho3'⟩ := ho3.read; have O3 := Lib.hid ho3'; have B3 := Lib.hid ((HB.out ▸ B2.out : Below B w w2).trans hb3); clear tok3 _t3 ho3 ho3' hb3))
  have F3 := Lib.hid (show OwnT w3 B 5 (.slice A3 (r + 1) c3) (r + 1 + 0) ((l ++ 128 :: List.replicate 0 0).map byteV) by
    rw [List.map_append]; exact O3.out)
  clear O3
  go_loopw [3] (fun v5 wr => ∃ z A cap, z ≤ Z ∧ v5 = .slice A (r + 1 + z) cap ∧ OwnT wr B 5 (.slice A (r + 1 + z) cap) (r + 1 + z) ((l ++ 128 :: List.replicate z 0).map byteV) ∧ Below B w wr) (fun v5 _ => r + 65 - lenV v5)
  case atStart => exact ⟨0, _, c3, Nat.zero_le _, rfl, F3.out, B3.out⟩
  case round =>
    obtain ⟨z, A6, cap6, hz, rfl, hown, hb⟩ := hrel
    by_cases hlt : z < Z
    · obtain ⟨n, hn⟩ : ∃ n, n = r + 1 + z := ⟨_, rfl⟩
      have hn64 : n ≤ r + 64 := by have := HZ.out; omega
      have b1 : ((n : Int) % 64 == 56) = false := by rw [beq_eq_false_iff_ne]; have := HZ.out; omega
      have b2 : ((n : Int) % 64 != 56) = true := by rw [bne_iff_ne]; have := HZ.out; omega
      rw [← hn] at hown ⊢
      have HN := Lib.hid hn
      have HO := Lib.hid hown
      have HB6 := Lib.hid hb
      clear hn hown hb
      go_wp2_with (at_builtin; refine app_newT appU8 rfl _ _ rfl B _ n _ rfl HO.out (.int .u8 0) 5 rfl rfl (by omega) (by rw [HB.out]; exact HB6.out.size) ?_; intro v7 w7 ho7 hb7; obtain ⟨A7, c7, rfl, _, _, _, ho7'⟩ := ho7.read; have O7 := Lib.hid ho7'; have B7 := Lib.hid (HB6.out.trans hb7); clear ho7 ho7' hb7)
      go_roundw
      case rel =>
        refine ⟨z + 1, _, c7, by omega, by rw [HN.out]; rfl, ?_, B7.out⟩
        have := O7.out
        rw [HN.out] at this
        rw [List.replicate_succ', ← List.cons_append, ← List.append_assoc, List.map_append]
        exact this
      case measure => simp [lenV]; have := HN.out; omega
    · obtain rfl : z = Z := by omega
      obtain ⟨n, hn⟩ : ∃ n, n = r + 1 + z := ⟨_, rfl⟩
      have b1 : ((n : Int) % 64 == 56) = true := by rw [beq_iff_eq]; have := HZ.out; omega
      have b2 : ((n : Int) % 64 != 56) = false := by rw [bne_eq_false_iff_eq]; have := HZ.out; omega
      have hn64 : n ≤ r + 64 := by have := HZ.out; omega
      obtain ⟨p0, hp0⟩ : ∃ p0 : Sp.Bs, p0 = l ++ 128 :: List.replicate z 0 := ⟨_, rfl⟩
      rw [← hp0] at hown
      rw [← hn] at hown ⊢
      have HN := Lib.hid hn
      have HP0 := Lib.hid hp0
      have HO := Lib.hid (show OwnT wr B 5 (.slice A6 n cap6) (n + 0) ((p0 ++ (Sp.be8 (r * 8)).take 0).map byteV) by rw [List.take_zero, List.append_nil]; exact hown)
      have HB6 := Lib.hid hb
      clear hn hown hb hp0
      obtain ⟨M, hM⟩ : ∃ M, M = r * 8 := ⟨_, rfl⟩
      have e0 : (r : Int) * 8 = (M : Int) := by omega
      have w0 : IntKind.u64.wrap (M : Int) = (M : Int) := by rw [IntKind.wrap_u64]; omega
      have HMM := Lib.hid hM
      rw [← hM] at HO
      clear hM
      have m1 : IntKind.u64.wrap (r : Int) = (r : Int) := by rw [IntKind.wrap_u64]; omega
      go_wp2_with fail
      go_loopw [3, 5] (fun v5 v38 wr => ∃ k A cap, k ≤ 8 ∧ v38 = .int .i64 (k : Nat) ∧ v5 = .slice A (n + k) cap ∧ OwnT wr B 5 (.slice A (n + k) cap) (n + k) ((p0 ++ (Sp.be8 M).take k).map byteV) ∧ Below B w wr) (fun _ v38 _ => 8 - (intOf v38).toNat)
      case atStart => exact ⟨0, A6, cap6, by decide, rfl, rfl, HO.out, HB6.out⟩
      case round =>
        obtain ⟨k, A7, cap7, hk, rfl, rfl, hown, hb⟩ := hrel
        by_cases hlt : k < 8
        · obtain ⟨m, hm⟩ : ∃ m, m = n + k := ⟨_, rfl⟩
          obtain ⟨k8, hk8⟩ : ∃ k8, k8 = 8 * k := ⟨_, rfl⟩
          obtain ⟨e, he⟩ : ∃ e, e = 56 - k8 := ⟨_, rfl⟩
          have e1 : 8 * (k : Int) = (k8 : Int) := by omega
          have e2 : 56 - (k8 : Int) = (e : Int) := by omega
          have e3 : min e 64 = e := by omega
          have e5 : IntKind.u64.wrap (e : Int) = (e : Int) := by rw [IntKind.wrap_u64]; omega
          obtain ⟨c, hc⟩ : ∃ c, c = UInt8.ofNat (M / 2 ^ e) := ⟨_, rfl⟩
          have e4 : (M : Int) / 2 ^ e % 256 = (c.toNat : Int) := by
            rw [hc, UInt8.toNat_ofNat']
            norm_cast
          have TK := Lib.hid (show (Sp.be8 M).take (k + 1) = (Sp.be8 M).take k ++ [c] by rw [be8_take M k hlt, hc, he, hk8])
          rw [← hm] at hown
          rw [← hm]
          have HO := Lib.hid hown
          have HBq := Lib.hid hb
          have HM := Lib.hid hm
          clear hown hb hm he hk8 hc
          go_wp2_with (at_builtin; refine app_newT appU8 rfl _ _ rfl B _ m _ rfl HO.out (.int .u8 c.toNat) 5 rfl rfl (by have := HM.out; omega) (by rw [HB.out]; exact HBq.out.size) ?_; intro v7 w7 ho7 hb7; obtain ⟨A8, c7, rfl, _, _, _, ho7'⟩ := ho7.read; have O7 := Lib.hid ho7'; have B7 := Lib.hid (HBq.out.trans hb7); clear ho7 ho7' hb7)
          go_roundw
          case rel =>
            refine ⟨k + 1, _, c7, by omega, by go_num, by rw [HM.out]; rfl, ?_, B7.out⟩
            have := O7.out
            rw [HM.out] at this
            rw [TK.out, ← List.append_assoc, List.map_append]
            exact this
          case measure => simp [intOf]; omega
        · obtain rfl : k = 8 := by omega
          rw [show ((8 : Nat) : Int) = 8 from rfl]
          obtain ⟨p, hp⟩ : ∃ p, p = p0 ++ Sp.be8 M := ⟨_, rfl⟩
          obtain ⟨L, hL⟩ : ∃ L, L = n + 8 := ⟨_, rfl⟩
          rw [List.take_of_length_le (by rw [Sp.be8_len]; exact Nat.le_refl _), ← hp, ← hL] at hown
          rw [← hL]
          have PP := Lib.hid (show Sp.pad l = p by
            rw [hp, HP0.out, HMM.out]; unfold Sp.pad Sp.padding; rw [← HR.out, ← HZ.out]; simp)
          have LP := Lib.hid (show p.length = L by have := hown.1; simpa using this)
          have HO := Lib.hid hown
          have HBz := Lib.hid hb
          clear hown hb hp hL
          go_wp2_with fail
          go_ret
          rw [PP.out, LP.out]
          exact ⟨_, _, rfl, by rw [← HB.out]; exact HO.out, by have := HBz.out; rwa [HB.out] at this⟩
theorem ch_or (e f g : UInt32) : (e &&& f) ||| (~~~e &&& g) = (e &&& f) ^^^ (~~~e &&& g) := by
  apply UInt32.toBitVec_inj.1
  apply BitVec.eq_of_getLsbD_eq
  intro i hi
  simp only [UInt32.toBitVec_or, UInt32.toBitVec_and, UInt32.toBitVec_xor, UInt32.toBitVec_not, BitVec.getLsbD_or, BitVec.getLsbD_and, BitVec.getLsbD_xor, BitVec.getLsbD_not, hi]
  cases e.toBitVec.getLsbD i <;> cases f.toBitVec.getLsbD i <;> cases g.toBitVec.getLsbD i <;> rfl
theorem maj_or (a b c : UInt32) : (a &&& b) ||| (a &&& c) ||| (b &&& c) = (a &&& b) ^^^ (a &&& c) ^^^ (b &&& c) := by
  apply UInt32.toBitVec_inj.1
  apply BitVec.eq_of_getLsbD_eq
  intro i hi
  simp only [UInt32.toBitVec_or, UInt32.toBitVec_and, UInt32.toBitVec_xor, BitVec.getLsbD_or, BitVec.getLsbD_and, BitVec.getLsbD_xor]
  cases a.toBitVec.getLsbD i <;> cases b.toBitVec.getLsbD i <;> cases c.toBitVec.getLsbD i <;> rfl
def shifted (L : List UInt32) (k : Nat) : List UInt32 := L.take (k + 1) ++ (L.drop k).take (7 - k)
theorem shifted_step (L : List UInt32) (j : Nat) (hL : L.length = 8) (hj : j < 7) : (shifted L (j + 1)).set (j + 1) (L.getD j 0) = shifted L j ∧ (shifted L (j + 1)).getD j 0 = L.getD j 0 ∧ (shifted L (j + 1)).length = 8 := by
  obtain ⟨a, b, c, d, e, f, g, x, rfl⟩ := len8 L hL
  rcases j with _ | _ | _ | _ | _ | _ | _ | j
  case succ.succ.succ.succ.succ.succ.succ => omega
  all_goals exact ⟨rfl, rfl, rfl⟩
set_option maxRecDepth 100000 in
set_option maxHeartbeats 8000000 in
theorem rround_calls (h S : List UInt32) (w : World) (hh : h.length = 8) (hS0 : S.length = 64) (K : KeysAt w 0) :
    Calls Tryz.prog 225 #[.agg (wordsC h), .agg (wordsC S)] w fun e w' => e = .returned (.agg (wordsC (List.zipWith (· + ·) (Sp.rnds S h 64) h))) ∧ Ext w w' := by
  have hds := wordsC_size S
  obtain ⟨arr, ha⟩ : ∃ arr, arr = wordsC (List.zipWith (· + ·) (Sp.rnds S h 64) h) := ⟨_, rfl⟩
  rw [← ha]
  have HA := Lib.hid ha
  clear ha
  obtain ⟨a1, a2, a3, a4, a5, a6, a7, a8, rfl⟩ := len8 h hh
  rw [show wordsC [a1, a2, a3, a4, a5, a6, a7, a8] = #[wordV a1, wordV a2, wordV a3, wordV a4, wordV a5, wordV a6, wordV a7, wordV a8] from rfl]
  obtain ⟨W4, hW4⟩ : ∃ W4, W4 = (((w.alloc (.cells #[wordV a1, wordV a2, wordV a3, wordV a4, wordV a5, wordV a6, wordV a7, wordV a8] 272)).alloc (.cells (wordsC S) 274)).alloc (.cells #[.int .u32 0, .int .u32 0, .int .u32 0, .int .u32 0, .int .u32 0, .int .u32 0, .int .u32 0, .int .u32 0] 272)).alloc (.cells #[wordV a1, wordV a2, wordV a3, wordV a4, wordV a5, wordV a6, wordV a7, wordV a8] 272) := ⟨_, rfl⟩
  have E4 := Lib.hid (show Ext w W4 by rw [hW4]; exact (((Ext.alloc _ _).trans (Ext.alloc _ _)).trans (Ext.alloc _ _)).trans (Ext.alloc _ _))
  have SZ := Lib.hid (show W4.heap.size = w.heap.size + 4 by rw [hW4]; simp)
  have X1 := Lib.hid (show isBlk W4 w.heap.size 272 #[wordV a1, wordV a2, wordV a3, wordV a4, wordV a5, wordV a6, wordV a7, wordV a8] by
    rw [hW4]; exact (box_at w _ _).below (((Ext.alloc _ _).trans (Ext.alloc _ _)).trans (Ext.alloc _ _)))
  have X2 := Lib.hid (show isBlk W4 (w.heap.size + 1) 274 (wordsC S) by
    rw [hW4]
    have := box_at (w.alloc (.cells #[wordV a1, wordV a2, wordV a3, wordV a4, wordV a5, wordV a6, wordV a7, wordV a8] 272)) (wordsC S) 274
    rw [World.size_alloc] at this
    exact this.below ((Ext.alloc _ _).trans (Ext.alloc _ _)))
  have X3 := Lib.hid (show isBlk W4 (w.heap.size + 1 + 1) 272 #[.int .u32 0, .int .u32 0, .int .u32 0, .int .u32 0, .int .u32 0, .int .u32 0, .int .u32 0, .int .u32 0] by
    rw [hW4]
    have := box_at ((w.alloc (.cells #[wordV a1, wordV a2, wordV a3, wordV a4, wordV a5, wordV a6, wordV a7, wordV a8] 272)).alloc (.cells (wordsC S) 274)) #[.int .u32 0, .int .u32 0, .int .u32 0, .int .u32 0, .int .u32 0, .int .u32 0, .int .u32 0, .int .u32 0] 272
    rw [World.size_alloc, World.size_alloc] at this
    exact this.below (Ext.alloc _ _))
  have X4 := Lib.hid (show isBlk W4 (w.heap.size + 1 + 1 + 1) 272 #[wordV a1, wordV a2, wordV a3, wordV a4, wordV a5, wordV a6, wordV a7, wordV a8] by
    rw [hW4]
    have := box_at (((w.alloc (.cells #[wordV a1, wordV a2, wordV a3, wordV a4, wordV a5, wordV a6, wordV a7, wordV a8] 272)).alloc (.cells (wordsC S) 274)).alloc (.cells #[.int .u32 0, .int .u32 0, .int .u32 0, .int .u32 0, .int .u32 0, .int .u32 0, .int .u32 0, .int .u32 0] 272)) #[wordV a1, wordV a2, wordV a3, wordV a4, wordV a5, wordV a6, wordV a7, wordV a8] 272
    rwa [World.size_alloc, World.size_alloc, World.size_alloc] at this)
  have HW := Lib.hid hW4.symm
  clear hW4
  have SL := Lib.hid hS0
  have NN := Lib.hid (show w.heap.size ≠ w.heap.size + 1 + 1 + 1 ∧ w.heap.size + 1 ≠ w.heap.size + 1 + 1 + 1 ∧ w.heap.size + 1 + 1 ≠ w.heap.size + 1 + 1 + 1 by omega)
  have K4 := Lib.hid (K.ext E4.out)
  go_enter Tryz.func225, Tryz.ntmps225
  go_wp2_with fail
  rw [HW.out]
  obtain ⟨g5, hg5⟩ : ∃ g5, g5 = w.heap.size + 1 + 1 + 1 := ⟨_, rfl⟩
  rw [← hg5] at X4 NN ⊢
  obtain ⟨g3, hg3⟩ : ∃ g3, g3 = w.heap.size + 1 := ⟨_, rfl⟩
  have G3 := Lib.hid hg3
  have G5 := Lib.hid (show w.heap.size ≤ g5 by omega)
  have HL8 := Lib.hid (show ([a1, a2, a3, a4, a5, a6, a7, a8] : List UInt32).length = 8 from rfl)
  clear hg5 hg3
  go_loopw [6] (fun v16 wr => ∃ k : Nat, k ≤ 64 ∧ v16 = .int .i64 k ∧ isBlk wr g5 272 (wordsC (Sp.rnds S [a1, a2, a3, a4, a5, a6, a7, a8] k)) ∧ Only g5 W4 wr) (fun v16 _ => 64 - (intOf v16).toNat)
  case atStart => exact ⟨0, by decide, rfl, X4.out, Only.refl _ _⟩
  case round =>
    obtain ⟨k, hk, rfl, hx, ho⟩ := hrel
    by_cases hlt : k < 64
    · obtain ⟨c1, c2, c3, c4, c5, c6, c7, c8, hl⟩ := len8 _ (Sp.rnds_len S [a1, a2, a3, a4, a5, a6, a7, a8] k HL8.out)
      have ST := Sp.rnds_succ S [a1, a2, a3, a4, a5, a6, a7, a8] k SL.out hlt
      rw [hl] at hx ST
      have kw := ((ho.blk X2.out NN.out.2.1).cell k).trans (wordsC_get S k (by rw [SL.out]; exact hlt))
      have kc := K4.out k hlt
      replace kc := (E4.out.from' (ho.below G5.out E4.out.size)).cell (K k hlt)
      obtain ⟨y, hy⟩ : ∃ y, y = S.getD k 0 := ⟨_, rfl⟩
      obtain ⟨kk, hkk⟩ : ∃ kk, kk = Sp.keys.getD k 0 := ⟨_, rfl⟩
      rw [← hy] at kw ST
      rw [← hkk] at kc ST
      have ST' := Lib.hid ST
      have HX := Lib.hid (show isBlk wr g5 272 #[wordV c1, wordV c2, wordV c3, wordV c4, wordV c5, wordV c6, wordV c7, wordV c8] from hx)
      have HO := Lib.hid ho
      have KC := Lib.hid kc
      have KW := Lib.hid kw
      have hkb : (k : Int) < 64 := by omega
      clear hl ST hx ho kc kw hy hkk
      go_wp2_with fail
      refine wp_region_det (fun W => Ext wr W) (by kernel_rfl) (by kernel_rfl) (Below.refl _ _).drew ?_
      repeat (first
        | (refine det_step (fun K hK => ?_)
           apply Exists.intro
           refine ⟨Or.inl ⟨rfl, fun W hS => ?_⟩, ?_⟩
           · replace hS : Ext wr W := hS
             have z := HX.out.below hS; have f0 := (z.cell 0).trans rfl; have f4 := (z.cell 4).trans rfl; have f7 := (z.cell 7).trans rfl; have f5 := (z.cell 5).trans rfl; have f6 := (z.cell 6).trans rfl; have fk := hS.cell KC.out; have fw := hS.cell KW.out
             go_simp
             first
             | exact rfl
             | exact ⟨rfl, hS⟩
             | (refine (rturn_calls _ _ W (by decide)).mono ?_; rintro e w1 ⟨rfl, rfl⟩; exact ⟨rfl, hS⟩)
           go_simp
           refine hK _ ?_
           clear hK K)
        | (refine det_step (fun K hK => ?_); refine det_no' rfl ?_; go_simp; refine hK _ ?_; clear hK K))
      refine det_nil ?_
      intro W9 hS
      replace hS : Ext _ W9 := hS
      have O2 := Lib.hid hS
      clear hS
      go_wp2_with fail
      refine wp_region_det (fun W => Ext W9 W) (by kernel_rfl) (by kernel_rfl) (Below.refl _ _).drew ?_
      repeat (first
        | (refine det_step (fun K hK => ?_)
           apply Exists.intro
           refine ⟨Or.inl ⟨rfl, fun W hS => ?_⟩, ?_⟩
           · replace hS : Ext W9 W := hS
             have z := HX.out.below (O2.out.trans hS); have f0 := (z.cell 0).trans rfl; have f1 := (z.cell 1).trans rfl; have f2 := (z.cell 2).trans rfl
             go_simp
             first
             | exact rfl
             | exact ⟨rfl, hS⟩
             | (refine (rturn_calls _ _ W (by decide)).mono ?_; rintro e w1 ⟨rfl, rfl⟩; exact ⟨rfl, hS⟩)
           go_simp
           refine hK _ ?_
           clear hK K)
        | (refine det_step (fun K hK => ?_); refine det_no' rfl ?_; go_simp; refine hK _ ?_; clear hK K))
      refine det_nil ?_
      intro W9 hS
      replace hS : Ext _ W9 := hS
      have O3 := Lib.hid (O2.out.trans hS)
      have Z := Lib.hid (HX.out.below O3.out)
      have CL := Lib.hid (show ([c1, c2, c3, c4, c5, c6, c7, c8] : List UInt32).length = 8 from rfl)
      clear hS O2
      go_wp2_with fail
      obtain ⟨t1, ht1⟩ : ∃ t1, t1 = c8 + (Sp.rotr c5 6 ^^^ Sp.rotr c5 11 ^^^ Sp.rotr c5 25) + ((c5 &&& c6) ||| (~~~c5 &&& c7)) + kk + y := ⟨_, rfl⟩
      obtain ⟨t2, ht2⟩ : ∃ t2, t2 = (Sp.rotr c1 2 ^^^ Sp.rotr c1 13 ^^^ Sp.rotr c1 22) + ((c1 &&& c2) ||| (c1 &&& c3) ||| (c2 &&& c3)) := ⟨_, rfl⟩
      rw [← ht1, ← ht2]
      have ST2 := Lib.hid (show Sp.rnds S [a1, a2, a3, a4, a5, a6, a7, a8] (k + 1) = [t1 + t2, c1, c2, c3, c4 + t1, c5, c6, c7] by
        rw [ST'.out, ht1, ht2, ch_or, maj_or]; rfl)
      have HO3 := Lib.hid (HO.out.trans (Only.of_below g5 O3.out))
      obtain ⟨L, hL⟩ : ∃ L : List UInt32, L = [c1, c2, c3, c4, c5, c6, c7, c8] := ⟨_, rfl⟩
      have HL := Lib.hid hL
      have ZL := Lib.hid (show isBlk W9 g5 272 (wordsC (shifted L 7)) by rw [hL]; exact Z.out)
      rw [← hL] at CL
      clear hL ht1 ht2 HX O3 Z ST'
      go_loopw [9] (fun v9 wr => ∃ i : Nat, i ≤ 7 ∧ v9 = .int .i64 i ∧ isBlk wr g5 272 (wordsC (shifted L i)) ∧ Only g5 W9 wr) (fun v9 _ => (intOf v9).toNat)
      case atStart => exact ⟨7, by decide, rfl, ZL.out, Only.refl _ _⟩
      case round =>
        obtain ⟨i, hi, rfl, hx, ho⟩ := hrel
        by_cases hi0 : 0 < i
        · obtain ⟨j, hj⟩ : ∃ j, i = j + 1 := ⟨i - 1, by omega⟩
          obtain ⟨s1, s2, s3⟩ := shifted_step L j CL.out (by omega)
          rw [← hj] at s1 s2 s3
          have e1 : (i : Int) - 1 = (j : Int) := by omega
          have b0 : (j : Int) < 8 := by omega
          have b1 : (i : Int) < 8 := by omega
          have b2 : (0 : Int) < (i : Int) := by omega
          have k1 := (hx.cell j).trans (wordsC_get _ j (by omega))
          have k2 := (hx.cell i).trans (wordsC_get _ i (by omega))
          rw [s2] at k1
          obtain ⟨v, hv⟩ : ∃ v, v = L.getD j 0 := ⟨_, rfl⟩
          rw [← hv] at k1 s1
          have fr := hx.frozen i
          have HXX := Lib.hid hx
          have HOO := Lib.hid ho
          have S1 := Lib.hid s1
          have HJ := Lib.hid hj
          clear hx ho s1 s2 s3 hv hj
          go_wp2_with fail
          go_roundw
          case rel =>
            refine ⟨j, by have := HJ.out; omega, by go_num, ?_, HOO.out.trans (Only.set _ _ _ _)⟩
            have := HXX.out.put i (wordV v) rfl
            rw [wordsC_set, S1.out] at this
            exact this
          case measure => simp [intOf]; have := HJ.out; omega
        · obtain rfl : i = 0 := by omega
          rw [show ((0 : Nat) : Int) = 0 from rfl]
          have hx' : isBlk wr g5 272 #[wordV c1, wordV c1, wordV c2, wordV c3, wordV c4, wordV c5, wordV c6, wordV c7] := by rw [HL.out] at hx; exact hx
          have f0 := (hx'.cell 0).trans rfl
          have f4 := (hx'.cell 4).trans rfl
          have r0 := hx'.frozen 0
          have r4 := hx'.frozen 4
          have HXX := Lib.hid hx'
          have HOO := Lib.hid (HO3.out.trans ho)
          clear hx hx' ho
          go_wp2_with fail
          refine ⟨⟨k + 1, by omega, by go_num, ?_, (HOO.out.trans (Only.set _ _ _ _)).trans (Only.set _ _ _ _)⟩, by simp [intOf]; omega⟩
          rw [ST2.out]
          exact (HXX.out.put 4 (wordV (c4 + t1)) rfl).put 0 (wordV (t1 + t2)) rfl
    · obtain rfl : k = 64 := by omega
      rw [show ((64 : Nat) : Int) = 64 from rfl]
      have LL := Sp.rnds_len S [a1, a2, a3, a4, a5, a6, a7, a8] 64 HL8.out
      obtain ⟨L, hL⟩ : ∃ L, L = Sp.rnds S [a1, a2, a3, a4, a5, a6, a7, a8] 64 := ⟨_, rfl⟩
      rw [← hL] at hx LL
      obtain ⟨H, hH⟩ : ∃ H : List UInt32, H = [a1, a2, a3, a4, a5, a6, a7, a8] := ⟨_, rfl⟩
      have MX := Lib.hid (show arr = wordsC (List.zipWith (· + ·) L H) by rw [HA.out, hL, hH])
      have HH8 := Lib.hid (show H.length = 8 by rw [hH]; rfl)
      have Y1' := Lib.hid (show isBlk W4 w.heap.size 272 (wordsC H) by rw [hH]; exact X1.out)
      have HLL := Lib.hid LL
      have HX0 := Lib.hid hx
      have HO0 := Lib.hid ho
      clear hL hH LL hx ho
      go_wp2_with fail
      go_loopw [10] (fun v97 wr => ∃ k : Nat, k ≤ 8 ∧ v97 = .int .i64 k ∧ isBlk wr g5 272 (wordsC ((List.zipWith (· + ·) L H).take k ++ L.drop k)) ∧ Only g5 W4 wr) (fun v97 _ => 8 - (intOf v97).toNat)
      case atStart => exact ⟨0, by decide, rfl, HX0.out, HO0.out⟩
      case round =>
        obtain ⟨k, hk, rfl, hx, ho⟩ := hrel
        by_cases hlt : k < 8
        · have z1 := zip_step L H k 8 HLL.out HH8.out hlt
          have z2 := zip_get L H k 8 HLL.out HH8.out hlt
          have zl : ((List.zipWith (· + ·) L H).take k ++ L.drop k).length = 8 := by have := HLL.out; have := HH8.out; simp; omega
          have k1 := wordsC_get ((List.zipWith (· + ·) L H).take k ++ L.drop k) k (by omega)
          have k2 := wordsC_get H k (by rw [HH8.out]; exact hlt)
          rw [z2] at k1
          obtain ⟨x, hxx⟩ : ∃ x, x = L.getD k 0 := ⟨_, rfl⟩
          obtain ⟨y, hyy⟩ : ∃ y, y = H.getD k 0 := ⟨_, rfl⟩
          rw [← hxx] at k1 z1
          rw [← hyy] at k2 z1
          have HX := Lib.hid hx
          have HO := Lib.hid ho
          have YW := Lib.hid (ho.blk Y1'.out NN.out.1)
          have Z1 := Lib.hid z1
          have K1 := Lib.hid k1
          have K2 := Lib.hid k2
          clear hx ho hxx hyy z1 z2 zl k1 k2
          go_wp2_with fail
          refine wp_region_det_tail (fun W => Ext wr W) 7 (by kernel_rfl) (by kernel_rfl) (Ext.refl _).drew ?_
          simp only [List.take_succ_cons, List.take_zero, List.drop_succ_cons, List.drop_zero]
          repeat (first
            | (refine det_step (fun K hK => ?_)
               apply Exists.intro
               refine ⟨Or.inl ⟨rfl, fun W hS => ?_⟩, ?_⟩
               · have hz : Ext wr W := hS; have f0 := ((HX.out.below hz).cell k).trans K1.out; have f1 := ((YW.out.below hz).cell k).trans K2.out
                 go_simp
                 first
                 | exact rfl
                 | exact ⟨rfl, hS⟩
                 | (fail)
               go_simp
               refine hK _ ?_
               clear hK K)
            | (refine det_step (fun K hK => ?_); refine det_no' rfl ?_; go_simp; refine hK _ ?_; clear hK K))
          refine det_nil ?_
          intro W hS
          replace hS : Ext wr W := hS
          have hxW := HX.out.below hS
          have g0 := (hxW.cell k).trans K1.out
          have g1 := hxW.frozen k
          have HXW := Lib.hid hxW
          have HOW := Lib.hid (HO.out.trans (Only.of_below g5 hS))
          clear hxW hS
          go_wp2_with fail
          go_roundw
          case rel =>
            refine ⟨k + 1, by omega, by go_num, ?_, HOW.out.trans (Only.set _ _ _ _)⟩
            have := HXW.out.put k (wordV (x + y)) rfl
            rw [wordsC_set, Z1.out] at this
            exact this
          case measure => simp [intOf]; omega
        · obtain rfl : k = 8 := by omega
          have zl : (List.zipWith (· + ·) L H).length = 8 := by have := HLL.out; have := HH8.out; simp; omega
          have HX := Lib.hid (show isBlk wr g5 272 arr by
            rw [MX.out]
            have := hx
            rwa [List.drop_eq_nil_of_le (by rw [HLL.out]; decide), List.append_nil, List.take_of_length_le (by omega)] at this)
          have ws : arr.size = 8 := by rw [MX.out, wordsC_size, zl]
          have w1 : arr.all (·.oneCell') = true := by rw [MX.out]; exact wordsC_one _
          have H3 := Lib.hid (ho.blk X3.out NN.out.2.2)
          have HO := Lib.hid ho
          clear hx ho zl
          go_wp2_with (first
            | ((with_reducible refine at_load (t := 272) rfl ?_); refine wpList_load_row rfl _ _ rfl g5 rfl 272 arr (0, 0) _ HX.out Tryz.underlying272 rfl (by rw [ws]; kernel_rfl) ?_)
            | ((with_reducible refine at_store (t := 272) rfl ?_); refine wpList_store_row rfl _ _ _ rfl (w.heap.size + 1 + 1) arr rfl rfl 272 _ H3.out (by rw [ws]; kernel_rfl) (by rw [ws]; rfl) w1 ?_))
          refine bodyPost_ret (results_cell_row rfl _ _ (w.heap.size + 1 + 1) 272 arr (0, 0) _ rfl (setRow_heap _ _ _ _ _ _ H3.out) Tryz.underlying272 rfl (by rw [ws]; kernel_rfl)) rfl ?_
          exact ⟨rfl, below_setRow (E4.out.from' (HO.out.below G5.out E4.out.size)) (by omega) _⟩
end Go.Proofs.YtmlfnidckfeebaaGreatDoor
namespace Go.Proofs.YtmlfnidckfeebaaGreatDoor
open Go.RowKit
attribute [local go_sem] yUpon w_add w_xor w_and w_or w_wrap w_shl8 w_shr3 w_shr10
theorem Only.then_ext {g : Nat} {a b c : World} (h : Only g a b) (k : Below a.heap.size b c) : Only g a c :=
  ⟨k.os.trans h.os, k.tape.trans h.tape, k.output.trans h.output, Nat.le_trans h.size k.size, fun j hj hn => (k.block j hj).trans (h.block j hj hn)⟩
def wstep (x : UInt32) (c : UInt8) : UInt32 := (x <<< 8) + c.toUInt32
def part4 (b : Sp.Bs) (i : Nat) : Nat → UInt32
  | 0 => 0
  | k + 1 => wstep (part4 b i k) (b.getD (4 * i + k) 0)
theorem or_add (x y n : Nat) (h : y < 2 ^ n) : x * 2 ^ n ||| y = x * 2 ^ n + y := by
  rw [← Nat.shiftLeft_eq, Nat.shiftLeft_add_eq_or_of_lt h]
theorem or_nat (a b c d : Nat) (_ha : a < 256) (hb : b < 256) (hc : c < 256) (hd : d < 256) :
    a * 16777216 ||| b * 65536 ||| c * 256 ||| d = ((a * 256 + b) * 256 + c) * 256 + d := by
  have h1 := or_add a (b * 65536) 24 (by omega)
  rw [show (2 : Nat) ^ 24 = 16777216 from rfl] at h1
  have h2 := or_add (a * 256 + b) (c * 256) 16 (by omega)
  rw [show (2 : Nat) ^ 16 = 65536 from rfl] at h2
  have h3 := or_add ((a * 256 + b) * 256 + c) d 8 (by omega)
  rw [show (2 : Nat) ^ 8 = 256 from rfl] at h3
  rw [h1, show a * 16777216 + b * 65536 = (a * 256 + b) * 65536 by omega, h2, show (a * 256 + b) * 65536 + c * 256 = ((a * 256 + b) * 256 + c) * 256 by omega, h3]
theorem part4_be (b : Sp.Bs) (i : Nat) : part4 b i 4 = Sp.be b i := by
  have l0 := (b.getD (4 * i) 0).toNat_lt
  have l1 := (b.getD (4 * i + 1) 0).toNat_lt
  have l2 := (b.getD (4 * i + 2) 0).toNat_lt
  have l3 := (b.getD (4 * i + 3) 0).toNat_lt
  unfold Sp.be
  simp only [part4, wstep, Nat.add_zero]
  generalize b.getD (4 * i) 0 = x0 at *
  generalize b.getD (4 * i + 1) 0 = x1 at *
  generalize b.getD (4 * i + 2) 0 = x2 at *
  generalize b.getD (4 * i + 3) 0 = x3 at *
  apply UInt32.toNat_inj.1
  simp only [UInt32.toNat_or, UInt32.toNat_add, UInt32.toNat_shiftLeft, UInt8.toNat_toUInt32, Nat.shiftLeft_eq]
  rw [show (8 : UInt32).toNat % 32 = 8 from rfl, show (16 : UInt32).toNat % 32 = 16 from rfl, show (24 : UInt32).toNat % 32 = 24 from rfl, show (0 : UInt32).toNat = 0 from rfl]
  generalize x0.toNat = a at *
  generalize x1.toNat = b1 at *
  generalize x2.toNat = c at *
  generalize x3.toNat = d at *
  simp only [Nat.reducePow] at *
  rw [Nat.mod_eq_of_lt (show a * 16777216 < 4294967296 by omega), Nat.mod_eq_of_lt (show b1 * 65536 < 4294967296 by omega), Nat.mod_eq_of_lt (show c * 256 < 4294967296 by omega), or_nat a b1 c d (by omega) (by omega) (by omega) (by omega)]
  omega
theorem digest_getD : ∀ (h : List UInt32) (i : Nat), i < 4 * h.length → (Sp.digest h).getD i 0 = UInt8.ofNat ((h.getD (i / 4) 0).toNat / 2 ^ (24 - 8 * (i % 4)))
  | [], i, hi => by simp at hi
  | x :: r, i, hi => by
    rw [show Sp.digest (x :: r) = [UInt8.ofNat (x.toNat / 16777216), UInt8.ofNat (x.toNat / 65536), UInt8.ofNat (x.toNat / 256), UInt8.ofNat x.toNat] ++ Sp.digest r from rfl]
    rcases i with _ | _ | _ | _ | i
    · rfl
    · rfl
    · rfl
    · show UInt8.ofNat x.toNat = UInt8.ofNat (x.toNat / 1)
      rw [Nat.div_one]
    · have ih := digest_getD r i (by simp at hi; omega)
      rw [show (i + 1 + 1 + 1 + 1) / 4 = i / 4 + 1 by omega, show (i + 1 + 1 + 1 + 1) % 4 = i % 4 by omega]
      exact ih
theorem byte_cell {w : World} {ga oa : Nat} {p : Sp.Bs} (h : Cells w (some ⟨ga, oa, none⟩) (p.map byteV)) (q : Nat) (hq : q < p.length) : ∃ x : UInt32, x = (p.getD q 0).toUInt32 ∧ w.cell? ⟨ga, oa + q, none⟩ = some (.int .u8 (wd x)) := by
  obtain ⟨x, hx, _, hc⟩ := byte_word p q hq
  refine ⟨x, hx, ?_⟩
  obtain ⟨g, o, hA, hcs⟩ := h (by intro e; rw [List.map_eq_nil_iff] at e; rw [e] at hq; simp at hq)
  cases hA
  refine hcs q _ ?_
  rw [← hc]
  simp [digC]
theorem be_take (p : Sp.Bs) (m i k : Nat) (hk : k < 4) (hi : i < 16) (_hm : 64 * m + 64 ≤ p.length) : ((p.drop (64 * m)).take 64).getD (4 * i + k) 0 = p.getD (64 * m + (4 * i + k)) 0 := by
  rw [List.getD_eq_getElem?_getD, List.getElem?_take, if_pos (by omega), List.getElem?_drop, List.getD_eq_getElem?_getD]
end Go.Proofs.YtmlfnidckfeebaaGreatDoor
