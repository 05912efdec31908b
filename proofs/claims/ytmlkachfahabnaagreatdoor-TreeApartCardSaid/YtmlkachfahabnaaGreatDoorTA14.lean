/- Walks: a block goes in. -/
import Derived.Test.YtmlkachfahabnaaGreatDoorTA13
namespace Go.Proofs.YtmlkachfahabnaaGreatDoor
open Go.RowKit
attribute [local go_sem] yUpon w_add w_xor w_and w_or w_wrap w_shl8 w_shl16 w_shl24 w_shr3 w_shr10
/-- The rounds' numbers lie where they were laid. -/
def KeysAt (w : World) (g : Nat) : Prop := ∀ i, i < 64 → w.cell? ⟨g, i, none⟩ = some (wordV (Sp.keys.getD i 0))
theorem KeysAt.ext {w w' : World} {g : Nat} (h : KeysAt w g) (e : Ext w w') : KeysAt w' g := fun i hi => e.cell (h i hi)
theorem len8 (l : List UInt32) (h : l.length = 8) : ∃ a b c d e f g x, l = [a, b, c, d, e, f, g, x] := by
  match l, h with
  | [a, b, c, d, e, f, g, x], _ => exact ⟨a, b, c, d, e, f, g, x, rfl⟩
/-- The number's complement, as the walk tells it. -/
theorem w_not' (x : UInt32) : bits .xor .u32 IntKind.u32.max (wd x) = wd (~~~x) := by
  have e : IntKind.u32.max = wd (4294967295 : UInt32) := rfl
  rw [e, w_xor]
  congr 1
attribute [local go_sem] w_not'
theorem Only.setRow (g : Nat) (cs : Array Value) (w : World) : Only g w (w.setRow g cs) := ⟨rfl, rfl, rfl, by simp [World.setRow], fun k _ hn => setRow_other _ _ _ _ hn⟩
theorem zip_step (L H : List UInt32) (k n : Nat) (hL : L.length = n) (hH : H.length = n) (hk : k < n) :
    ((List.zipWith (· + ·) L H).take k ++ L.drop k).set k (L.getD k 0 + H.getD k 0) = (List.zipWith (· + ·) L H).take (k + 1) ++ L.drop (k + 1) := by
  have hz : (List.zipWith (· + ·) L H).length = n := by rw [List.length_zipWith, hL, hH]; omega
  have ht : ((List.zipWith (· + ·) L H).take k).length = k := by rw [List.length_take, hz]; omega
  rw [List.drop_eq_getElem_cons (by omega)]
  have := set_mid ((List.zipWith (· + ·) L H).take k) (L.getD k 0 + H.getD k 0) (L[k]'(by omega)) (L.drop (k + 1))
  rw [ht] at this
  rw [this, List.take_succ_eq_append_getElem (by omega), List.append_assoc]
  simp [List.getD_eq_getElem?_getD, List.getElem?_eq_getElem (show k < L.length by omega), List.getElem?_eq_getElem (show k < H.length by omega)]
theorem zip_get (L H : List UInt32) (k n : Nat) (hL : L.length = n) (hH : H.length = n) (hk : k < n) :
    ((List.zipWith (· + ·) L H).take k ++ L.drop k).getD k 0 = L.getD k 0 := by
  have hz : (List.zipWith (· + ·) L H).length = n := by rw [List.length_zipWith, hL, hH]; omega
  have ht : ((List.zipWith (· + ·) L H).take k).length = k := by rw [List.length_take, hz]; omega
  rw [List.getD_eq_getElem?_getD, List.getElem?_append_right (by omega), ht, Nat.sub_self, List.getElem?_drop, List.getD_eq_getElem?_getD]
  rfl
theorem index_words (l : List UInt32) (k : Nat) (hl : l.length = 64) (hk : k < 64) (w : World) : (Instr.index 86 (.agg (wordsC l)) (.int .i64 k)).run Tryz.prog w = .ok (wordV (l.getD k 0)) w := by
  have hg := wordsC_get l k (by omega)
  have hs := Tryz.sizeOf82
  simp [Instr.index, run_underlying Tryz.underlying86, asIntOf, hk, part, hg]
set_option maxRecDepth 100000 in
set_option maxHeartbeats 8000000 in
theorem mix_calls (h : List UInt32) (b : Sp.Bs) (w : World) (hh : h.length = 8) (hb : b.length = 64) (K : KeysAt w 2) :
    Calls Tryz.prog 158 #[.agg (wordsC h), .agg (digC b)] w fun e w' => e = .returned (.agg (wordsC (Sp.mix h b))) ∧ Ext w w' := by
  have hds := digC_size b
  obtain ⟨arr, ha⟩ : ∃ arr, arr = wordsC (Sp.mix h b) := ⟨_, rfl⟩
  rw [← ha]
  have HA := Lib.hid ha
  clear ha
  obtain ⟨a1, a2, a3, a4, a5, a6, a7, a8, rfl⟩ := len8 h hh
  rw [show wordsC [a1, a2, a3, a4, a5, a6, a7, a8] = #[wordV a1, wordV a2, wordV a3, wordV a4, wordV a5, wordV a6, wordV a7, wordV a8] from rfl]
  obtain ⟨W4, hW4⟩ : ∃ W4, W4 = (((w.alloc (.cells #[wordV a1, wordV a2, wordV a3, wordV a4, wordV a5, wordV a6, wordV a7, wordV a8] 83)).alloc (.cells (digC b) 186)).alloc (.cells #[.int .u32 0, .int .u32 0, .int .u32 0, .int .u32 0, .int .u32 0, .int .u32 0, .int .u32 0, .int .u32 0] 83)).alloc (.cells #[wordV a1, wordV a2, wordV a3, wordV a4, wordV a5, wordV a6, wordV a7, wordV a8] 83) := ⟨_, rfl⟩
  have E4 := Lib.hid (show Ext w W4 by rw [hW4]; exact (((Ext.alloc _ _).trans (Ext.alloc _ _)).trans (Ext.alloc _ _)).trans (Ext.alloc _ _))
  have SZ := Lib.hid (show W4.heap.size = w.heap.size + 4 by rw [hW4]; simp)
  have X1 := Lib.hid (show isBlk W4 w.heap.size 83 #[wordV a1, wordV a2, wordV a3, wordV a4, wordV a5, wordV a6, wordV a7, wordV a8] by
    rw [hW4]; exact (box_at w _ _).below (((Ext.alloc _ _).trans (Ext.alloc _ _)).trans (Ext.alloc _ _)))
  have X2 := Lib.hid (show isBlk W4 (w.heap.size + 1) 186 (digC b) by
    rw [hW4]
    have := box_at (w.alloc (.cells #[wordV a1, wordV a2, wordV a3, wordV a4, wordV a5, wordV a6, wordV a7, wordV a8] 83)) (digC b) 186
    rw [World.size_alloc] at this
    exact this.below ((Ext.alloc _ _).trans (Ext.alloc _ _)))
  have X3 := Lib.hid (show isBlk W4 (w.heap.size + 1 + 1) 83 #[.int .u32 0, .int .u32 0, .int .u32 0, .int .u32 0, .int .u32 0, .int .u32 0, .int .u32 0, .int .u32 0] by
    rw [hW4]
    have := box_at ((w.alloc (.cells #[wordV a1, wordV a2, wordV a3, wordV a4, wordV a5, wordV a6, wordV a7, wordV a8] 83)).alloc (.cells (digC b) 186)) #[.int .u32 0, .int .u32 0, .int .u32 0, .int .u32 0, .int .u32 0, .int .u32 0, .int .u32 0, .int .u32 0] 83
    rw [World.size_alloc, World.size_alloc] at this
    exact this.below (Ext.alloc _ _))
  have X4 := Lib.hid (show isBlk W4 (w.heap.size + 1 + 1 + 1) 83 #[wordV a1, wordV a2, wordV a3, wordV a4, wordV a5, wordV a6, wordV a7, wordV a8] by
    rw [hW4]
    have := box_at (((w.alloc (.cells #[wordV a1, wordV a2, wordV a3, wordV a4, wordV a5, wordV a6, wordV a7, wordV a8] 83)).alloc (.cells (digC b) 186)).alloc (.cells #[.int .u32 0, .int .u32 0, .int .u32 0, .int .u32 0, .int .u32 0, .int .u32 0, .int .u32 0, .int .u32 0] 83)) #[wordV a1, wordV a2, wordV a3, wordV a4, wordV a5, wordV a6, wordV a7, wordV a8] 83
    rwa [World.size_alloc, World.size_alloc, World.size_alloc] at this)
  have HW := Lib.hid hW4.symm
  clear hW4
  have SP := Lib.hid (spread_calls b W4 hb)
  have sl := Sp.sched_len b 48
  obtain ⟨S, hS⟩ : ∃ S, S = Sp.sched b 48 := ⟨_, rfl⟩
  rw [← hS] at SP sl
  have HS := Lib.hid hS
  have SL := Lib.hid (show S.length = 64 from sl)
  have NN := Lib.hid (show w.heap.size ≠ w.heap.size + 1 + 1 + 1 ∧ w.heap.size + 1 + 1 ≠ w.heap.size + 1 + 1 + 1 by omega)
  clear hS sl
  go_enter Tryz.func158, Tryz.ntmps158
  go_wp2_with ((with_reducible refine at_load (t := 186) rfl ?_); rw [HW.out]; refine wpList_load_row rfl _ _ rfl (w.heap.size + 1) rfl 186 (digC b) (0, 0) _ X2.out Tryz.underlying186 rfl (by rw [hds, hb]; kernel_rfl) ?_)
  refine SP.out.mono ?_
  rintro e w5 ⟨rfl, hb5⟩
  go_wp2_with fail
  obtain ⟨g5, hg5⟩ : ∃ g5, g5 = w.heap.size + 1 + 1 + 1 := ⟨_, rfl⟩
  rw [← hg5] at X4 NN ⊢
  have K5 := Lib.hid (K.ext (E4.out.trans hb5))
  have E5 := Lib.hid (E4.out.trans hb5)
  have Y1 := Lib.hid (X1.out.below hb5)
  have Y3 := Lib.hid (X3.out.below hb5)
  have Y4 := Lib.hid (X4.out.below hb5)
  have G5 := Lib.hid (show w.heap.size ≤ g5 by omega)
  have HL8 := Lib.hid (show ([a1, a2, a3, a4, a5, a6, a7, a8] : List UInt32).length = 8 from rfl)
  clear hb5 hg5 X1 X2 X3 X4
  go_loopw [16] (fun v16 wr => ∃ k : Nat, k ≤ 64 ∧ v16 = .int .i64 k ∧ isBlk wr g5 83 (wordsC (Sp.rnds S [a1, a2, a3, a4, a5, a6, a7, a8] k)) ∧ Only g5 w5 wr) (fun v16 _ => 64 - (intOf v16).toNat)
  case atStart => exact ⟨0, by decide, rfl, Y4.out, Only.refl _ _⟩
  case round =>
    obtain ⟨k, hk, rfl, hx, ho⟩ := hrel
    by_cases hlt : k < 64
    · obtain ⟨c1, c2, c3, c4, c5, c6, c7, c8, hl⟩ := len8 _ (Sp.rnds_len S [a1, a2, a3, a4, a5, a6, a7, a8] k HL8.out)
      have ST := Sp.rnds_succ S [a1, a2, a3, a4, a5, a6, a7, a8] k SL.out hlt
      rw [hl] at hx ST
      replace hx : isBlk wr g5 83 #[wordV c1, wordV c2, wordV c3, wordV c4, wordV c5, wordV c6, wordV c7, wordV c8] := hx
      have hidx := index_words S k SL.out hlt
      have ck := (E5.out.from' (ho.below G5.out E5.out.size))
      have kc := K.ext ck k hlt
      obtain ⟨y, hy⟩ : ∃ y, y = S.getD k 0 := ⟨_, rfl⟩
      obtain ⟨kk, hkk⟩ : ∃ kk, kk = Sp.keys.getD k 0 := ⟨_, rfl⟩
      rw [← hy] at hidx ST
      rw [← hkk] at kc ST
      have ST' := Lib.hid ST
      have HX := Lib.hid hx
      have HO := Lib.hid ho
      have KC := Lib.hid kc
      clear hl ST hx ho ck kc hy hkk
      go_wp2_with fail
      refine wp_region_det (fun W => Ext wr W) (by kernel_rfl) (by kernel_rfl) (Below.refl _ _).drew ?_
      repeat (first
        | (refine det_step (fun K hK => ?_)
           apply Exists.intro
           refine ⟨Or.inl ⟨rfl, fun W hS => ?_⟩, ?_⟩
           · replace hS : Ext wr W := hS
             have z := HX.out.below hS; have f0 := (z.cell 0).trans rfl; have f4 := (z.cell 4).trans rfl
             go_simp
             first
             | exact rfl
             | exact ⟨rfl, hS⟩
             | (fail)
           go_simp
           refine hK _ ?_
           clear hK K)
        | (refine det_step (fun K hK => ?_); refine det_no' rfl ?_; go_simp; refine hK _ ?_; clear hK K))
      refine det_nil ?_
      intro W9 hS
      replace hS : Ext _ W9 := hS
      have O1 := Lib.hid hS
      clear hS hidx
      go_wp2_with fail
      refine wp_region_det (fun W => Ext W9 W) (by kernel_rfl) (by kernel_rfl) (Below.refl _ _).drew ?_
      repeat (first
        | (refine det_step (fun K hK => ?_)
           apply Exists.intro
           refine ⟨Or.inl ⟨rfl, fun W hS => ?_⟩, ?_⟩
           · replace hS : Ext W9 W := hS
             have z := HX.out.below (O1.out.trans hS); have f7 := (z.cell 7).trans rfl; have f5 := (z.cell 5).trans rfl; have f6 := (z.cell 6).trans rfl; have fk := (O1.out.trans hS).cell KC.out
             go_simp
             first
             | exact rfl
             | exact ⟨rfl, hS⟩
             | (refine (turned_calls _ _ W (by decide)).mono ?_; rintro e w1 ⟨rfl, rfl⟩; exact ⟨rfl, hS⟩)
           go_simp
           refine hK _ ?_
           clear hK K)
        | (refine det_step (fun K hK => ?_); refine det_no' rfl ?_; go_simp; refine hK _ ?_; clear hK K))
      refine det_nil ?_
      intro W9 hS
      replace hS : Ext _ W9 := hS
      have O2 := Lib.hid (O1.out.trans hS)
      clear hS O1
      go_wp2_with fail
      refine wp_region_det (fun W => Ext W9 W) (by kernel_rfl) (by kernel_rfl) (Below.refl _ _).drew ?_
      repeat (first
        | (refine det_step (fun K hK => ?_)
           apply Exists.intro
           refine ⟨Or.inl ⟨rfl, fun W hS => ?_⟩, ?_⟩
           · replace hS : Ext W9 W := hS
             have z := HX.out.below (O2.out.trans hS); have f1 := (z.cell 1).trans rfl; have f2 := (z.cell 2).trans rfl
             go_simp
             first
             | exact rfl
             | exact ⟨rfl, hS⟩
             | (refine (turned_calls _ _ W (by decide)).mono ?_; rintro e w1 ⟨rfl, rfl⟩; exact ⟨rfl, hS⟩)
           go_simp
           refine hK _ ?_
           clear hK K)
        | (refine det_step (fun K hK => ?_); refine det_no' rfl ?_; go_simp; refine hK _ ?_; clear hK K))
      refine det_nil ?_
      intro W9 hS
      replace hS : Ext _ W9 := hS
      have O3 := Lib.hid (O2.out.trans hS)
      have z := HX.out.below O3.out
      have f0 := (z.cell 0).trans rfl
      have f1 := (z.cell 1).trans rfl
      have f2 := (z.cell 2).trans rfl
      have f3 := (z.cell 3).trans rfl
      have f4 := (z.cell 4).trans rfl
      have f5 := (z.cell 5).trans rfl
      have f6 := (z.cell 6).trans rfl
      have Z := Lib.hid z
      clear hS O2 z
      go_wp2_with ((with_reducible refine at_store (t := 83) rfl ?_); refine wpList_store_row rfl _ _ _ rfl g5 _ rfl rfl 83 _ Z.out (by kernel_rfl) rfl (by simp [Value.oneCell']) ?_)
      go_roundw
      case rel =>
        refine ⟨k + 1, by omega, by go_num, ?_, HO.out.trans ((Only.of_below g5 O3.out).trans (Only.setRow _ _ _))⟩
        rw [ST'.out]
        exact setRow_heap _ _ _ _ _ _ Z.out
      case measure => simp [intOf]; omega
    · obtain rfl : k = 64 := by omega
      rw [show ((64 : Nat) : Int) = 64 from rfl]
      have LL := Sp.rnds_len S [a1, a2, a3, a4, a5, a6, a7, a8] 64 HL8.out
      obtain ⟨L, hL⟩ : ∃ L, L = Sp.rnds S [a1, a2, a3, a4, a5, a6, a7, a8] 64 := ⟨_, rfl⟩
      rw [← hL] at hx LL
      obtain ⟨H, hH⟩ : ∃ H : List UInt32, H = [a1, a2, a3, a4, a5, a6, a7, a8] := ⟨_, rfl⟩
      have MX := Lib.hid (show arr = wordsC (List.zipWith (· + ·) L H) by rw [HA.out, hL, hH, HS.out]; rfl)
      have HH8 := Lib.hid (show H.length = 8 by rw [hH]; rfl)
      have Y1' := Lib.hid (show isBlk w5 w.heap.size 83 (wordsC H) by rw [hH]; exact Y1.out)
      have HLL := Lib.hid LL
      have HX0 := Lib.hid hx
      have HO0 := Lib.hid ho
      clear hL hH LL hx ho
      go_wp2_with fail
      go_loopw [97] (fun v97 wr => ∃ k : Nat, k ≤ 8 ∧ v97 = .int .i64 k ∧ isBlk wr g5 83 (wordsC ((List.zipWith (· + ·) L H).take k ++ L.drop k)) ∧ Only g5 w5 wr) (fun v97 _ => 8 - (intOf v97).toNat)
      case atStart => exact ⟨0, by decide, rfl, HX0.out, HO0.out⟩
      case round =>
        obtain ⟨k, hk, rfl, hx, ho⟩ := hrel
        by_cases hlt : k < 8
        · have z1 := zip_step L H k 8 HLL.out HH8.out hlt
          have z2 := zip_get L H k 8 HLL.out HH8.out hlt
          have zl : ((List.zipWith (· + ·) L H).take k ++ L.drop k).length = 8 := by have := HLL.out; have := HH8.out; simp; omega
          have k1 := wordsC_get ((List.zipWith (· + ·) L H).take k ++ L.drop k) k (by omega)
          have k2 := wordsC_get H k (by rw [HH8.out]; exact hlt)
          rw [z2] at k1
          obtain ⟨x, hxx⟩ : ∃ x, x = L.getD k 0 := ⟨_, rfl⟩
          obtain ⟨y, hyy⟩ : ∃ y, y = H.getD k 0 := ⟨_, rfl⟩
          rw [← hxx] at k1 z1
          rw [← hyy] at k2 z1
          have HX := Lib.hid hx
          have HO := Lib.hid ho
          have YW := Lib.hid (ho.blk Y1'.out NN.out.1)
          have Z1 := Lib.hid z1
          have K1 := Lib.hid k1
          have K2 := Lib.hid k2
          clear hx ho hxx hyy z1 z2 zl k1 k2
          go_wp2_with fail
          refine wp_region_det_tail (fun W => Ext wr W) 7 (by kernel_rfl) (by kernel_rfl) (Ext.refl _).drew ?_
          simp only [List.take_succ_cons, List.take_zero, List.drop_succ_cons, List.drop_zero]
          repeat (first
            | (refine det_step (fun K hK => ?_)
               apply Exists.intro
               refine ⟨Or.inl ⟨rfl, fun W hS => ?_⟩, ?_⟩
               · have hz : Ext wr W := hS; have f0 := ((HX.out.below hz).cell k).trans K1.out; have f1 := ((YW.out.below hz).cell k).trans K2.out
                 go_simp
                 first
                 | exact rfl
                 | exact ⟨rfl, hS⟩
                 | (fail)
               go_simp
               refine hK _ ?_
               clear hK K)
            | (refine det_step (fun K hK => ?_); refine det_no' rfl ?_; go_simp; refine hK _ ?_; clear hK K))
          refine det_nil ?_
          intro W hS
          replace hS : Ext wr W := hS
          have hxW := HX.out.below hS
          have g0 := (hxW.cell k).trans K1.out
          have g1 := hxW.frozen k
          have HXW := Lib.hid hxW
          have HOW := Lib.hid (HO.out.trans (Only.of_below g5 hS))
          clear hxW hS
          go_wp2_with fail
          go_roundw
          case rel =>
            refine ⟨k + 1, by omega, by go_num, ?_, HOW.out.trans (Only.set _ _ _ _)⟩
            have := HXW.out.put k (wordV (x + y)) rfl
            rw [wordsC_set, Z1.out] at this
            exact this
          case measure => simp [intOf]; omega
        · obtain rfl : k = 8 := by omega
          have zl : (List.zipWith (· + ·) L H).length = 8 := by have := HLL.out; have := HH8.out; simp; omega
          have HX := Lib.hid (show isBlk wr g5 83 arr by
            rw [MX.out]
            have := hx
            rwa [List.drop_eq_nil_of_le (by rw [HLL.out]; decide), List.append_nil, List.take_of_length_le (by omega)] at this)
          have ws : arr.size = 8 := by rw [MX.out, wordsC_size, zl]
          have w1 : arr.all (·.oneCell') = true := by rw [MX.out]; exact wordsC_one _
          have H3 := Lib.hid (ho.blk Y3.out NN.out.2)
          have HO := Lib.hid ho
          clear hx ho zl
          go_wp2_with (first
            | ((with_reducible refine at_load (t := 83) rfl ?_); refine wpList_load_row rfl _ _ rfl g5 rfl 83 arr (0, 0) _ HX.out Tryz.underlying83 rfl (by rw [ws]; kernel_rfl) ?_)
            | ((with_reducible refine at_store (t := 83) rfl ?_); refine wpList_store_row rfl _ _ _ rfl (w.heap.size + 1 + 1) arr rfl rfl 83 _ H3.out (by rw [ws]; kernel_rfl) (by rw [ws]; rfl) w1 ?_))
          refine bodyPost_ret (results_cell_row rfl _ _ (w.heap.size + 1 + 1) 83 arr (0, 0) _ rfl (setRow_heap _ _ _ _ _ _ H3.out) Tryz.underlying83 rfl (by rw [ws]; kernel_rfl)) rfl ?_
          exact ⟨rfl, below_setRow (E5.out.from' (HO.out.below G5.out E5.out.size)) (by omega) _⟩
end Go.Proofs.YtmlkachfahabnaaGreatDoor
