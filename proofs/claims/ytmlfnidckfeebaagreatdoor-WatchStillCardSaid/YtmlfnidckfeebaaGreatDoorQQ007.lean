/- Walks: a block goes in. Walks: a digest's text goes in. Walks: what a digest comes to. -/
import Derived.WalkSpells
import Derived.Test.YtmlfnidckfeebaaGreatDoorQQ006
namespace Go.Proofs.YtmlfnidckfeebaaGreatDoor
open Go.RowKit
attribute [local go_sem] yUpon w_add w_xor w_and w_or w_wrap w_shl8 w_shl16 w_shl24 w_shr3 w_shr10
def KeysAt (w : World) (g : Nat) : Prop := ∀ i, i < 64 → w.cell? ⟨g, i, none⟩ = some (wordV (Sp.keys.getD i 0))
theorem KeysAt.ext {w w' : World} {g : Nat} (h : KeysAt w g) (e : Ext w w') : KeysAt w' g := fun i hi => e.cell (h i hi)
theorem len8 (l : List UInt32) (h : l.length = 8) : ∃ a b c d e f g x, l = [a, b, c, d, e, f, g, x] := by
  match l, h with
  | [a, b, c, d, e, f, g, x], _ => exact ⟨a, b, c, d, e, f, g, x, rfl⟩
theorem w_not' (x : UInt32) : bits .xor .u32 IntKind.u32.max (wd x) = wd (~~~x) := by
  have e : IntKind.u32.max = wd (4294967295 : UInt32) := rfl
  rw [e, w_xor]
  congr 1
attribute [local go_sem] w_not'
theorem Only.setRow (g : Nat) (cs : Array Value) (w : World) : Only g w (w.setRow g cs) := ⟨rfl, rfl, rfl, by simp [World.setRow], fun k _ hn => setRow_other _ _ _ _ hn⟩
theorem zip_step (L H : List UInt32) (k n : Nat) (hL : L.length = n) (hH : H.length = n) (hk : k < n) :
    ((List.zipWith (· + ·) L H).take k ++ L.drop k).set k (L.getD k 0 + H.getD k 0) = (List.zipWith (· + ·) L H).take (k + 1) ++ L.drop (k + 1) := by
  have hz : (List.zipWith (· + ·) L H).length = n := by rw [List.length_zipWith, hL, hH]; omega
  have ht : ((List.zipWith (· + ·) L H).take k).length = k := by rw [List.length_take, hz]; omega
  rw [List.drop_eq_getElem_cons (by omega)]
  have := set_mid ((List.zipWith (· + ·) L H).take k) (L.getD k 0 + H.getD k 0) (L[k]'(by omega)) (L.drop (k + 1))
  rw [ht] at this
  rw [this, List.take_succ_eq_append_getElem (by omega), List.append_assoc]
  simp [List.getD_eq_getElem?_getD, List.getElem?_eq_getElem (show k < L.length by omega), List.getElem?_eq_getElem (show k < H.length by omega)]
theorem zip_get (L H : List UInt32) (k n : Nat) (hL : L.length = n) (hH : H.length = n) (hk : k < n) :
    ((List.zipWith (· + ·) L H).take k ++ L.drop k).getD k 0 = L.getD k 0 := by
  have hz : (List.zipWith (· + ·) L H).length = n := by rw [List.length_zipWith, hL, hH]; omega
  have ht : ((List.zipWith (· + ·) L H).take k).length = k := by rw [List.length_take, hz]; omega
  rw [List.getD_eq_getElem?_getD, List.getElem?_append_right (by omega), ht, Nat.sub_self, List.getElem?_drop, List.getD_eq_getElem?_getD]
  rfl
theorem index_words (l : List UInt32) (k : Nat) (hl : l.length = 64) (hk : k < 64) (w : World) : (Instr.index 274 (.agg (wordsC l)) (.int .i64 k)).run Tryz.prog w = .ok (wordV (l.getD k 0)) w := by
  have hg := wordsC_get l k (by omega)
  have hs := Tryz.sizeOf244
  simp [Instr.index, run_underlying Tryz.underlying274, asIntOf, hk, part, hg]
set_option maxRecDepth 100000 in
set_option maxHeartbeats 8000000 in
theorem mix_calls (h : List UInt32) (b : Sp.Bs) (w : World) (hh : h.length = 8) (hb : b.length = 64) (K : KeysAt w 2) :
    Calls Tryz.prog 314 #[.agg (wordsC h), .agg (digC b)] w fun e w' => e = .returned (.agg (wordsC (Sp.mix h b))) ∧ Ext w w' := by
  have hds := digC_size b
  obtain ⟨arr, ha⟩ : ∃ arr, arr = wordsC (Sp.mix h b) := ⟨_, rfl⟩
  rw [← ha]
  have HA := Lib.hid ha
  clear ha
  obtain ⟨a1, a2, a3, a4, a5, a6, a7, a8, rfl⟩ := len8 h hh
  rw [show wordsC [a1, a2, a3, a4, a5, a6, a7, a8] = #[wordV a1, wordV a2, wordV a3, wordV a4, wordV a5, wordV a6, wordV a7, wordV a8] from rfl]
  obtain ⟨W4, hW4⟩ : ∃ W4, W4 = (((w.alloc (.cells #[wordV a1, wordV a2, wordV a3, wordV a4, wordV a5, wordV a6, wordV a7, wordV a8] 272)).alloc (.cells (digC b) 346)).alloc (.cells #[.int .u32 0, .int .u32 0, .int .u32 0, .int .u32 0, .int .u32 0, .int .u32 0, .int .u32 0, .int .u32 0] 272)).alloc (.cells #[wordV a1, wordV a2, wordV a3, wordV a4, wordV a5, wordV a6, wordV a7, wordV a8] 272) := ⟨_, rfl⟩
  have E4 := Lib.hid (show Ext w W4 by rw [hW4]; exact (((Ext.alloc _ _).trans (Ext.alloc _ _)).trans (Ext.alloc _ _)).trans (Ext.alloc _ _))
  have SZ := Lib.hid (show W4.heap.size = w.heap.size + 4 by rw [hW4]; simp)
  have X1 := Lib.hid (show isBlk W4 w.heap.size 272 #[wordV a1, wordV a2, wordV a3, wordV a4, wordV a5, wordV a6, wordV a7, wordV a8] by
    rw [hW4]; exact (box_at w _ _).below (((Ext.alloc _ _).trans (Ext.alloc _ _)).trans (Ext.alloc _ _)))
  have X2 := Lib.hid (show isBlk W4 (w.heap.size + 1) 346 (digC b) by
    rw [hW4]
    have := box_at (w.alloc (.cells #[wordV a1, wordV a2, wordV a3, wordV a4, wordV a5, wordV a6, wordV a7, wordV a8] 272)) (digC b) 346
    rw [World.size_alloc] at this
    exact this.below ((Ext.alloc _ _).trans (Ext.alloc _ _)))
  have X3 := Lib.hid (show isBlk W4 (w.heap.size + 1 + 1) 272 #[.int .u32 0, .int .u32 0, .int .u32 0, .int .u32 0, .int .u32 0, .int .u32 0, .int .u32 0, .int .u32 0] by
    rw [hW4]
    have := box_at ((w.alloc (.cells #[wordV a1, wordV a2, wordV a3, wordV a4, wordV a5, wordV a6, wordV a7, wordV a8] 272)).alloc (.cells (digC b) 346)) #[.int .u32 0, .int .u32 0, .int .u32 0, .int .u32 0, .int .u32 0, .int .u32 0, .int .u32 0, .int .u32 0] 272
    rw [World.size_alloc, World.size_alloc] at this
    exact this.below (Ext.alloc _ _))
  have X4 := Lib.hid (show isBlk W4 (w.heap.size + 1 + 1 + 1) 272 #[wordV a1, wordV a2, wordV a3, wordV a4, wordV a5, wordV a6, wordV a7, wordV a8] by
    rw [hW4]
    have := box_at (((w.alloc (.cells #[wordV a1, wordV a2, wordV a3, wordV a4, wordV a5, wordV a6, wordV a7, wordV a8] 272)).alloc (.cells (digC b) 346)).alloc (.cells #[.int .u32 0, .int .u32 0, .int .u32 0, .int .u32 0, .int .u32 0, .int .u32 0, .int .u32 0, .int .u32 0] 272)) #[wordV a1, wordV a2, wordV a3, wordV a4, wordV a5, wordV a6, wordV a7, wordV a8] 272
    rwa [World.size_alloc, World.size_alloc, World.size_alloc] at this)
  have HW := Lib.hid hW4.symm
  clear hW4
  have SP := Lib.hid (spread_calls b W4 hb)
  have sl := Sp.sched_len b 48
  obtain ⟨S, hS⟩ : ∃ S, S = Sp.sched b 48 := ⟨_, rfl⟩
  rw [← hS] at SP sl
  have HS := Lib.hid hS
  have SL := Lib.hid (show S.length = 64 from sl)
  have NN := Lib.hid (show w.heap.size ≠ w.heap.size + 1 + 1 + 1 ∧ w.heap.size + 1 + 1 ≠ w.heap.size + 1 + 1 + 1 by omega)
  clear hS sl
  go_enter Tryz.func314, Tryz.ntmps314
  go_wp2_with ((with_reducible refine at_load (t := 346) rfl ?_); rw [HW.out]; refine wpList_load_row rfl _ _ rfl (w.heap.size + 1) rfl 346 (digC b) (0, 0) _ X2.out Tryz.underlying346 rfl (by rw [hds, hb]; kernel_rfl) ?_)
  refine SP.out.mono ?_
  rintro e w5 ⟨rfl, hb5⟩
  go_wp2_with fail
  obtain ⟨g5, hg5⟩ : ∃ g5, g5 = w.heap.size + 1 + 1 + 1 := ⟨_, rfl⟩
  rw [← hg5] at X4 NN ⊢
  have K5 := Lib.hid (K.ext (E4.out.trans hb5))
  have E5 := Lib.hid (E4.out.trans hb5)
  have Y1 := Lib.hid (X1.out.below hb5)
  have Y3 := Lib.hid (X3.out.below hb5)
  have Y4 := Lib.hid (X4.out.below hb5)
  have G5 := Lib.hid (show w.heap.size ≤ g5 by omega)
  have HL8 := Lib.hid (show ([a1, a2, a3, a4, a5, a6, a7, a8] : List UInt32).length = 8 from rfl)
  clear hb5 hg5 X1 X2 X3 X4
  go_loopw [16] (fun v16 wr => ∃ k : Nat, k ≤ 64 ∧ v16 = .int .i64 k ∧ isBlk wr g5 272 (wordsC (Sp.rnds S [a1, a2, a3, a4, a5, a6, a7, a8] k)) ∧ Only g5 w5 wr) (fun v16 _ => 64 - (intOf v16).toNat)
  case atStart => exact ⟨0, by decide, rfl, Y4.out, Only.refl _ _⟩
  case round =>
    obtain ⟨k, hk, rfl, hx, ho⟩ := hrel
    by_cases hlt : k < 64
    · obtain ⟨c1, c2, c3, c4, c5, c6, c7, c8, hl⟩ := len8 _ (Sp.rnds_len S [a1, a2, a3, a4, a5, a6, a7, a8] k HL8.out)
      have ST := Sp.rnds_succ S [a1, a2, a3, a4, a5, a6, a7, a8] k SL.out hlt
      rw [hl] at hx ST
      replace hx : isBlk wr g5 272 #[wordV c1, wordV c2, wordV c3, wordV c4, wordV c5, wordV c6, wordV c7, wordV c8] := hx
      have hidx := index_words S k SL.out hlt
      have ck := (E5.out.from' (ho.below G5.out E5.out.size))
      have kc := K.ext ck k hlt
      obtain ⟨y, hy⟩ : ∃ y, y = S.getD k 0 := ⟨_, rfl⟩
      obtain ⟨kk, hkk⟩ : ∃ kk, kk = Sp.keys.getD k 0 := ⟨_, rfl⟩
      rw [← hy] at hidx ST
      rw [← hkk] at kc ST
      have ST' := Lib.hid ST
      have HX := Lib.hid hx
      have HO := Lib.hid ho
      have KC := Lib.hid kc
      clear hl ST hx ho ck kc hy hkk
      go_wp2_with fail
      refine wp_region_det (fun W => Ext wr W) (by kernel_rfl) (by kernel_rfl) (Below.refl _ _).drew ?_
      repeat (first
        | (refine det_step (fun K hK => ?_)
           apply Exists.intro
           refine ⟨Or.inl ⟨rfl, fun W hS => ?_⟩, ?_⟩
           · replace hS : Ext wr W := hS
             have z := HX.out.below hS; have f0 := (z.cell 0).trans rfl; have f4 := (z.cell 4).trans rfl
             go_simp
             first
             | exact rfl
             | exact ⟨rfl, hS⟩
             | (fail)
           go_simp
           refine hK _ ?_
           clear hK K)
        | (refine det_step (fun K hK => ?_); refine det_no' rfl ?_; go_simp; refine hK _ ?_; clear hK K))
      refine det_nil ?_
      intro W9 hS
      replace hS : Ext _ W9 := hS
      have O1 := Lib.hid hS
      clear hS hidx
      go_wp2_with fail
      refine wp_region_det (fun W => Ext W9 W) (by kernel_rfl) (by kernel_rfl) (Below.refl _ _).drew ?_
      repeat (first
        | (refine det_step (fun K hK => ?_)
           apply Exists.intro
           refine ⟨Or.inl ⟨rfl, fun W hS => ?_⟩, ?_⟩
           · replace hS : Ext W9 W := hS
             have z := HX.out.below (O1.out.trans hS); have f7 := (z.cell 7).trans rfl; have f5 := (z.cell 5).trans rfl; have f6 := (z.cell 6).trans rfl; have fk := (O1.out.trans hS).cell KC.out
             go_simp
             first
             | exact rfl
             | exact ⟨rfl, hS⟩
             | (refine (turned_calls _ _ W (by decide)).mono ?_; rintro e w1 ⟨rfl, rfl⟩; exact ⟨rfl, hS⟩)
           go_simp
           refine hK _ ?_
           clear hK K)
        | (refine det_step (fun K hK => ?_); refine det_no' rfl ?_; go_simp; refine hK _ ?_; clear hK K))
      refine det_nil ?_
      intro W9 hS
      replace hS : Ext _ W9 := hS
      have O2 := Lib.hid (O1.out.trans hS)
      clear hS O1
      go_wp2_with fail
      refine wp_region_det (fun W => Ext W9 W) (by kernel_rfl) (by kernel_rfl) (Below.refl _ _).drew ?_
      repeat (first
        | (refine det_step (fun K hK => ?_)
           apply Exists.intro
           refine ⟨Or.inl ⟨rfl, fun W hS => ?_⟩, ?_⟩
           · replace hS : Ext W9 W := hS
             have z := HX.out.below (O2.out.trans hS); have f1 := (z.cell 1).trans rfl; have f2 := (z.cell 2).trans rfl
             go_simp
             first
             | exact rfl
             | exact ⟨rfl, hS⟩
             | (refine (turned_calls _ _ W (by decide)).mono ?_; rintro e w1 ⟨rfl, rfl⟩; exact ⟨rfl, hS⟩)
           go_simp
           refine hK _ ?_
           clear hK K)
        | (refine det_step (fun K hK => ?_); refine det_no' rfl ?_; go_simp; refine hK _ ?_; clear hK K))
      refine det_nil ?_
      intro W9 hS
      replace hS : Ext _ W9 := hS
      have O3 := Lib.hid (O2.out.trans hS)
      have z := HX.out.below O3.out
      have f0 := (z.cell 0).trans rfl
      have f1 := (z.cell 1).trans rfl
      have f2 := (z.cell 2).trans rfl
      have f3 := (z.cell 3).trans rfl
      have f4 := (z.cell 4).trans rfl
      have f5 := (z.cell 5).trans rfl
      have f6 := (z.cell 6).trans rfl
      have Z := Lib.hid z
      clear hS O2 z
      go_wp2_with ((with_reducible refine at_store (t := 272) rfl ?_); refine wpList_store_row rfl _ _ _ rfl g5 _ rfl rfl 272 _ Z.out (by kernel_rfl) rfl (by simp [Value.oneCell']) ?_)
      go_roundw
      case rel =>
        refine ⟨k + 1, by omega, by go_num, ?_, HO.out.trans ((Only.of_below g5 O3.out).trans (Only.setRow _ _ _))⟩
        rw [ST'.out]
        exact setRow_heap _ _ _ _ _ _ Z.out
      case measure => simp [intOf]; omega
    · obtain rfl : k = 64 := by omega
      rw [show ((64 : Nat) : Int) = 64 from rfl]
      have LL := Sp.rnds_len S [a1, a2, a3, a4, a5, a6, a7, a8] 64 HL8.out
      obtain ⟨L, hL⟩ : ∃ L, L = Sp.rnds S [a1, a2, a3, a4, a5, a6, a7, a8] 64 := ⟨_, rfl⟩
      rw [← hL] at hx LL
      obtain ⟨H, hH⟩ : ∃ H : List UInt32, H = [a1, a2, a3, a4, a5, a6, a7, a8] := ⟨_, rfl⟩
      have MX := Lib.hid (show arr = wordsC (List.zipWith (· + ·) L H) by rw [HA.out, hL, hH, HS.out]; rfl)
      have HH8 := Lib.hid (show H.length = 8 by rw [hH]; rfl)
      have Y1' := Lib.hid (show isBlk w5 w.heap.size 272 (wordsC H) by rw [hH]; exact Y1.out)
      have HLL := Lib.hid LL
      have HX0 := Lib.hid hx
      have HO0 := Lib.hid ho
      clear hL hH LL hx ho
      go_wp2_with fail
      go_loopw [97] (fun v97 wr => ∃ k : Nat, k ≤ 8 ∧ v97 = .int .i64 k ∧ isBlk wr g5 272 (wordsC ((List.zipWith (· + ·) L H).take k ++ L.drop k)) ∧ Only g5 w5 wr) (fun v97 _ => 8 - (intOf v97).toNat)
      case atStart => exact ⟨0, by decide, rfl, HX0.out, HO0.out⟩
      case round =>
        obtain ⟨k, hk, rfl, hx, ho⟩ := hrel
        by_cases hlt : k < 8
        · have z1 := zip_step L H k 8 HLL.out HH8.out hlt
          have z2 := zip_get L H k 8 HLL.out HH8.out hlt
          have zl : ((List.zipWith (· + ·) L H).take k ++ L.drop k).length = 8 := by have := HLL.out; have := HH8.out; simp; omega
          have k1 := wordsC_get ((List.zipWith (· + ·) L H).take k ++ L.drop k) k (by omega)
          have k2 := wordsC_get H k (by rw [HH8.out]; exact hlt)
          rw [z2] at k1
          obtain ⟨x, hxx⟩ : ∃ x, x = L.getD k 0 := ⟨_, rfl⟩
          obtain ⟨y, hyy⟩ : ∃ y, y = H.getD k 0 := ⟨_, rfl⟩
          rw [← hxx] at k1 z1
          rw [← hyy] at k2 z1
          have HX := Lib.hid hx
          have HO := Lib.hid ho
          have YW := Lib.hid (ho.blk Y1'.out NN.out.1)
          have Z1 := Lib.hid z1
          have K1 := Lib.hid k1
          have K2 := Lib.hid k2
          clear hx ho hxx hyy z1 z2 zl k1 k2
          go_wp2_with fail
          refine wp_region_det_tail (fun W => Ext wr W) 7 (by kernel_rfl) (by kernel_rfl) (Ext.refl _).drew ?_
          simp only [List.take_succ_cons, List.take_zero, List.drop_succ_cons, List.drop_zero]
          repeat (first
            | (refine det_step (fun K hK => ?_)
               apply Exists.intro
               refine ⟨Or.inl ⟨rfl, fun W hS => ?_⟩, ?_⟩
               · have hz : Ext wr W := hS; have f0 := ((HX.out.below hz).cell k).trans K1.out; have f1 := ((YW.out.below hz).cell k).trans K2.out
                 go_simp
                 first
                 | exact rfl
                 | exact ⟨rfl, hS⟩
                 | (fail)
               go_simp
               refine hK _ ?_
               clear hK K)
            | (refine det_step (fun K hK => ?_); refine det_no' rfl ?_; go_simp; refine hK _ ?_; clear hK K))
          refine det_nil ?_
          intro W hS
          replace hS : Ext wr W := hS
          have hxW := HX.out.below hS
          have g0 := (hxW.cell k).trans K1.out
          have g1 := hxW.frozen k
          have HXW := Lib.hid hxW
          have HOW := Lib.hid (HO.out.trans (Only.of_below g5 hS))
          clear hxW hS
          go_wp2_with fail
          go_roundw
          case rel =>
            refine ⟨k + 1, by omega, by go_num, ?_, HOW.out.trans (Only.set _ _ _ _)⟩
            have := HXW.out.put k (wordV (x + y)) rfl
            rw [wordsC_set, Z1.out] at this
            exact this
          case measure => simp [intOf]; omega
        · obtain rfl : k = 8 := by omega
          have zl : (List.zipWith (· + ·) L H).length = 8 := by have := HLL.out; have := HH8.out; simp; omega
          have HX := Lib.hid (show isBlk wr g5 272 arr by
            rw [MX.out]
            have := hx
            rwa [List.drop_eq_nil_of_le (by rw [HLL.out]; decide), List.append_nil, List.take_of_length_le (by omega)] at this)
          have ws : arr.size = 8 := by rw [MX.out, wordsC_size, zl]
          have w1 : arr.all (·.oneCell') = true := by rw [MX.out]; exact wordsC_one _
          have H3 := Lib.hid (ho.blk Y3.out NN.out.2)
          have HO := Lib.hid ho
          clear hx ho zl
          go_wp2_with (first
            | ((with_reducible refine at_load (t := 272) rfl ?_); refine wpList_load_row rfl _ _ rfl g5 rfl 272 arr (0, 0) _ HX.out Tryz.underlying272 rfl (by rw [ws]; kernel_rfl) ?_)
            | ((with_reducible refine at_store (t := 272) rfl ?_); refine wpList_store_row rfl _ _ _ rfl (w.heap.size + 1 + 1) arr rfl rfl 272 _ H3.out (by rw [ws]; kernel_rfl) (by rw [ws]; rfl) w1 ?_))
          refine bodyPost_ret (results_cell_row rfl _ _ (w.heap.size + 1 + 1) 272 arr (0, 0) _ rfl (setRow_heap _ _ _ _ _ _ H3.out) Tryz.underlying272 rfl (by rw [ws]; kernel_rfl)) rfl ?_
          exact ⟨rfl, below_setRow (E5.out.from' (HO.out.below G5.out E5.out.size)) (by omega) _⟩
end Go.Proofs.YtmlfnidckfeebaaGreatDoor
namespace Go.Proofs.YtmlfnidckfeebaaGreatDoor
open Go.RowKit
attribute [local go_sem] yUpon
def sumC : List UInt32 → Option Addr → Nat → Nat → Nat → Array Value
  | [a, b, c, d, e, f, g, h], A, n, cap, N => #[.bool true, wordV a, wordV b, wordV c, wordV d, wordV e, wordV f, wordV g, wordV h, .slice A n cap, .int .u64 (N : Int)]
  | _, _, _, _, _ => #[]
def leftAt (w : World) (g : Nat) : Nat := match w.cell? ⟨g, 9, none⟩ with | some (.slice _ n _) => n | _ => 0
def SumAt (w : World) (g : Nat) (h : List UInt32) (rest : Sp.Bs) (N : Nat) : Prop := ∃ A cap, isBlk w g 325 (sumC h A rest.length cap N) ∧ Cells w A (rest.map byteV) ∧ rest.length ≤ cap ∧ cap ≤ 9223372036854775807
theorem own_cap {w : World} {base n cap : Nat} {e : TypeId} {size : Nat} {A : Option Addr} {xs : List Value} (h : w.ownsRow base e size (.slice A n cap) n xs) : n ≤ cap ∧ cap ≤ 9223372036854775807 := by
  rcases h.2 with ⟨h1, h2⟩ | ⟨g, cap', cur, h1, _, _, h3, h4, _⟩
  · cases h1; omega
  · cases h1; unfold maxLen at h4; exact ⟨h3, by omega⟩
theorem own_off {w : World} {base n cap : Nat} {e : TypeId} {size : Nat} {A : Option Addr} {xs : List Value} (h : w.ownsRow base e size (.slice A n cap) n xs) : ∀ a, A = some a → base ≤ a.block := by
  rintro a rfl
  rcases h.2 with ⟨h1, _⟩ | ⟨g, cap', cur, h1, h2, _⟩
  · cases h1
  · cases h1; exact h2
theorem Cells.only {w w' : World} {g : Nat} {A : Option Addr} {cs : List Value} (h : Cells w A cs) (ha : ∀ a, A = some a → a.block ≠ g) (e : Only g w w') : Cells w' A cs := fun hn => by
  obtain ⟨b, o, hA, hc⟩ := h hn
  refine ⟨b, o, hA, fun i u hi => ?_⟩
  have h1 := hc i u hi
  have h2 : w'.heap[b]? = w.heap[b]? := e.block b (cell_lt h1) (ha _ hA)
  unfold World.cell? at h1 ⊢
  rw [h2]; exact h1
theorem KeysAt.only {w w' : World} {k g : Nat} (h : KeysAt w k) (hk : k ≠ g) (e : Only g w w') : KeysAt w' k := fun i hi => by
  have h1 := h i hi
  have h2 : w'.heap[k]? = w.heap[k]? := e.block k (cell_lt h1) hk
  unfold World.cell? at h1 ⊢
  rw [h2]; exact h1
theorem run_arrayAt {P : Program} {T e : TypeId} {n : Nat} (h : P.underlying T = some (.array n e)) (a : Addr) (len cap : Nat) (hn : n ≤ len) (w : World) : (Instr.arrayAt T (.slice (some a) len cap)).run P w = .ok (.pointer (some a)) w := by
  have : ¬ len < n := by omega
  simp [Instr.arrayAt, run_underlying h, this]
theorem leftAt_blk {w : World} {g : Nat} {t : TypeId} {cs : Array Value} {A : Option Addr} {n c : Nat} (h : isBlk w g t cs) (hc : cs[9]? = some (.slice A n c)) : leftAt w g = n := by
  unfold leftAt; rw [h.cell 9, hc]
theorem only_grown {w w' : World} (g : Nat) (h : w.grownBy w' none) : Only g w w' := ⟨h.os, h.tape, h.output, h.size, fun k hk _ => h.block k hk (by simp)⟩
theorem start_calls (w : World) : Calls Tryz.prog 313 #[] w fun e w' => e = .returned (.agg (wordsC Sp.start)) ∧ Ext w w' := by
  go_enter Tryz.func313, Tryz.ntmps313
  go_wp2
  refine bodyPost_ret (results_cell_row rfl _ _ w.heap.size 272 (wordsC Sp.start) (0, 0) _ rfl (heap_alloc_new _ _) Tryz.underlying272 rfl (by kernel_rfl)) rfl ?_
  exact ⟨rfl, Ext.alloc _ _⟩
set_option maxRecDepth 100000 in
set_option maxHeartbeats 2000000 in
theorem swrite_calls (g : Nat) (l : Sp.Bs) (w : World) (hl : l.length ≤ 4000000000) (K : KeysAt w 2)
    (hx : isBlk w g 325 #[.bool false, .int .u32 0, .int .u32 0, .int .u32 0, .int .u32 0, .int .u32 0, .int .u32 0, .int .u32 0, .int .u32 0, .slice none 0 0, .int .u64 0]) :
    Calls Tryz.prog 290 #[.pointer (some ⟨g, 0, none⟩), .string (strOf l)] w fun e w' => e = .returned (.tuple #[]) ∧ SumAt w' g (Sp.mixN (l.length / 64) Sp.start l) (l.drop (64 * (l.length / 64))) l.length ∧ Only g w w' := by
  have c0 := (hx.cell 0).trans rfl
  have sz : (strOf l).size = l.length := strOf_size _
  have ST := Lib.hid (start_calls w)
  obtain ⟨s1, s2, s3, s4, s5, s6, s7, s8, hs⟩ := len8 Sp.start rfl
  rw [hs, show wordsC [s1, s2, s3, s4, s5, s6, s7, s8] = #[wordV s1, wordV s2, wordV s3, wordV s4, wordV s5, wordV s6, wordV s7, wordV s8] from rfl] at ST
  have HX := Lib.hid hx
  have GW := Lib.hid hx.lt
  have KG := Lib.hid (show 2 ≠ g by
    rintro rfl
    have h1 := K 0 (by decide)
    rw [hx.cell 0] at h1
    cases h1)
  have HS := Lib.hid hs
  clear hx hs
  go_enter Tryz.func290, Tryz.ntmps290
  go_wp2_with fail
  refine ST.out.mono ?_
  rintro e w1 ⟨rfl, hb1⟩
  have B1 := Lib.hid hb1
  have z := HX.out.below hb1
  have f0 := (z.cell 0).trans rfl
  have fr0 := z.frozen 0
  clear hb1 c0
  have Z0 := Lib.hid (show isBlk (w1.setCell ⟨g, 0, none⟩ (.bool true)) g 325 #[.bool true, .int .u32 0, .int .u32 0, .int .u32 0, .int .u32 0, .int .u32 0, .int .u32 0, .int .u32 0, .int .u32 0, .slice none 0 0, .int .u64 0] from z.put 0 _ rfl)
  clear z
  obtain ⟨i0, hi, hz0, hz1, hz2⟩ := info_parts (show (Tryz.prog.info? 5).map (fun i => (i.zero, i.size, i.bytes)) = some (some (.int .u8 0), 1, 1) by kernel_rfl)
  have tok1 : True := trivial
  have n1 : IntKind.u64.wrap (l.length : Int) = (l.length : Int) := by rw [IntKind.wrap_u64]; omega
  go_wp2_with (first
    | (have _t := tok1; (with_reducible refine at_store (t := 272) rfl ?_); refine store_blk rfl _ _ _ rfl g 1 #[wordV s1, wordV s2, wordV s3, wordV s4, wordV s5, wordV s6, wordV s7, wordV s8] rfl rfl (cs' := #[.bool true, wordV s1, wordV s2, wordV s3, wordV s4, wordV s5, wordV s6, wordV s7, wordV s8, .slice none 0 0, .int .u64 0]) Z0.out ?h1 ?h2 ?h3 ?h4 ?_; (case h1 => simp); (case h2 => kernel_rfl); (case h3 => simp [Value.oneCell']); (case h4 => simp [putsA]); intro w2 hx2 ho2 hs2; have X2 := Lib.hid hx2; have O2 := Lib.hid ((Only.set g 0 _ w1).trans ho2); clear f0 fr0 hx2 ho2 hs2 _t tok1; have g9 := (X2.out.cell 9).trans rfl; have g10 := (X2.out.cell 10).trans rfl; have h9 := X2.out.frozen 9; have h10 := X2.out.frozen 10)
    | (at_builtin; refine Lib.wpList_append_own_string _ rfl _ _ 172 9 rfl w.heap.size 5 i0 Tryz.underlying172 Tryz.underlying9 hi hz0 hz1 hz2 (.slice none 0 0) 0 [] rfl ⟨rfl, .inl ⟨rfl, rfl⟩⟩ (strOf l) rfl ?c3 ?c4 ?c5 ?_; (case c3 => unfold maxLen; omega); (case c4 => omega); (case c5 => have := B1.out.size; have := O2.out.size; simp; omega); intro v3 w3 hown3 hgrow3 _; rw [Nat.zero_add, sz, List.nil_append, strCells_eq, strOf_data] at hown3; obtain ⟨A, cap, rfl, hcells⟩ := own_read hown3; have CAP := Lib.hid (own_cap hown3); have OFF := Lib.hid (fun a ha => Nat.ne_of_gt (Nat.lt_of_lt_of_le GW.out (own_off hown3 a ha))); have CE := Lib.hid hcells; have X3 := Lib.hid (show isBlk w3 g 325 #[.bool true, wordV s1, wordV s2, wordV s3, wordV s4, wordV s5, wordV s6, wordV s7, wordV s8, .slice none 0 0, .int .u64 (l.length : Int)] from (hgrow3.block g (X2.out.put 10 (.int .u64 (l.length : Int)) rfl).lt (by simp [Value.ownBlock])).trans (X2.out.put 10 (.int .u64 (l.length : Int)) rfl)); have O3 := Lib.hid (only_grown g hgrow3); clear hown3 hgrow3 hcells g9 g10 h9 h10; have i9 := (X3.out.cell 9).trans rfl; have i9' := X3.out.frozen 9))
  have KK := Lib.hid (((K.ext B1.out).only KG.out O2.out).only KG.out ((Only.set g 10 _ _).trans O3.out))
  go_loopw [37] (fun _ wr => ∃ i A cap, 64 * i ≤ l.length ∧ isBlk wr g 325 (sumC (Sp.mixN i Sp.start l) A (l.length - 64 * i) cap l.length) ∧ Cells wr A ((l.drop (64 * i)).map byteV) ∧ (∀ a, A = some a → a.block ≠ g) ∧ (l.length - 64 * i ≤ cap ∧ cap ≤ 9223372036854775807) ∧ Only g w3 wr) (fun _ wr => leftAt wr g)
  case atStart => exact ⟨0, A, cap, by omega, by rw [Sp.mixN, HS.out]; exact X3.out.put 9 _ rfl, Cells.only (by simpa using CE.out) OFF.out (Only.set _ _ _ _), OFF.out, by simpa using CAP.out, Only.set _ _ _ _⟩
  case round =>
    obtain ⟨i, A, cap, hi, hx, hc, hoff, hcap, ho⟩ := hrel
    obtain ⟨c1, c2, c3, c4, c5, c6, c7, c8, hm⟩ := len8 _ (Sp.mixN_len i Sp.start l rfl)
    rw [hm] at hx
    obtain ⟨n, hn⟩ : ∃ n, n = l.length - 64 * i := ⟨_, rfl⟩
    rw [← hn] at hx hcap
    have hx9 : wr.cell? ⟨g, 9, none⟩ = some (.slice A n cap) := (hx.cell 9).trans rfl
    by_cases h64 : 64 ≤ n
    · have hne : (l.drop (64 * i)).map byteV ≠ [] := by intro e; have := congrArg List.length e; simp at this; omega
      obtain ⟨ga, o, rfl, hcl⟩ := hc hne
      have b1 : decide ((64 : Int) ≤ (n : Int)) = true := by rw [decide_eq_true_iff]; omega
      have i64 : (64 : Int) ≤ (n : Int) := by omega
      obtain ⟨blk, hblk⟩ : ∃ blk, blk = (l.drop (64 * i)).take 64 := ⟨_, rfl⟩
      have bl : blk.length = 64 := by rw [hblk, List.length_take, List.length_drop]; omega
      have rng : ∀ W, Ext wr W → W.rangeAt ga o (blk.map byteV) := fun W e j v hj => by
        refine e.cell (hcl j v ?_)
        rw [hblk, List.map_take, List.getElem?_take] at hj
        split at hj
        · exact hj
        · cases hj
      obtain ⟨d1, d2, d3, d4, d5, d6, d7, d8, hd⟩ := len8 (Sp.mix [c1, c2, c3, c4, c5, c6, c7, c8] blk) (Sp.mix_len _ _ rfl)
      have MC := Lib.hid fun W (e : Ext wr W) => mix_calls [c1, c2, c3, c4, c5, c6, c7, c8] blk W rfl bl ((KK.out.only KG.out ho).ext e)
      rw [hd, show wordsC [c1, c2, c3, c4, c5, c6, c7, c8] = #[wordV c1, wordV c2, wordV c3, wordV c4, wordV c5, wordV c6, wordV c7, wordV c8] from rfl, show wordsC [d1, d2, d3, d4, d5, d6, d7, d8] = #[wordV d1, wordV d2, wordV d3, wordV d4, wordV d5, wordV d6, wordV d7, wordV d8] from rfl] at MC
      have HX := Lib.hid (show isBlk wr g 325 #[.bool true, wordV c1, wordV c2, wordV c3, wordV c4, wordV c5, wordV c6, wordV c7, wordV c8, .slice (some ⟨ga, o, none⟩) n cap, .int .u64 (l.length : Int)] from hx)
      have HM := Lib.hid (show Sp.mixN (i + 1) Sp.start l = [d1, d2, d3, d4, d5, d6, d7, d8] by rw [Sp.mixN_snoc, hm, ← hblk, hd])
      have RNG := Lib.hid rng
      have BL := Lib.hid bl
      have HCL := Lib.hid hcl
      have HO := Lib.hid ho
      have HN := Lib.hid hn
      clear hx hm hblk bl rng hcl ho hc hd hn hne
      go_wp2_with fail
      refine wp_region_det_tail (fun W => Ext wr W) 12 (by kernel_rfl) (by kernel_rfl) (Ext.refl _).drew ?_
      simp only [List.take_succ_cons, List.take_zero, List.drop_succ_cons, List.drop_zero]
      repeat (first
        | (refine det_step (fun K hK => ?_); (refine det_load_mid rfl 346 _ rfl ga o rfl (blk.map byteV) _ (fun W hS => RNG.out W hS) Tryz.underlying346 rfl (by rw [List.length_map, BL.out]; kernel_rfl) ?_); go_simp; refine hK _ ?_; clear hK K)
        | (refine det_step (fun K hK => ?_)
           apply Exists.intro
           refine ⟨Or.inl ⟨rfl, fun W hS => ?_⟩, ?_⟩
           · have hz : Ext wr W := hS; have z := HX.out.below hz; have f1 := (z.cell 1).trans rfl; have f2 := (z.cell 2).trans rfl; have f3 := (z.cell 3).trans rfl; have f4 := (z.cell 4).trans rfl; have f5 := (z.cell 5).trans rfl; have f6 := (z.cell 6).trans rfl; have f7 := (z.cell 7).trans rfl; have f8 := (z.cell 8).trans rfl; have f9 := (z.cell 9).trans rfl; have hap := run_arrayAt Tryz.underlying346 ⟨ga, o, none⟩ n cap h64 W
             go_simp
             first
             | exact rfl
             | exact ⟨rfl, hS⟩
             | (refine (MC.out W hz).mono ?_; rintro e w5 ⟨rfl, hb5⟩; exact ⟨rfl, hz.trans hb5⟩)
           go_simp
           refine hK _ ?_
           clear hK K)
        | (refine det_step (fun K hK => ?_); refine det_no' rfl ?_; go_simp; refine hK _ ?_; clear hK K))
      refine det_nil ?_
      intro W hS
      replace hS : Ext wr W := hS
      have HXW := Lib.hid (HX.out.below hS)
      have O4 := Lib.hid (HO.out.trans (Only.of_below g hS))
      have EW := Lib.hid hS
      clear hx9 hS
      by_cases hc64 : cap = 64
      · subst hc64
        obtain rfl : n = 64 := by omega
        go_wp2_with ((with_reducible refine at_store (t := 272) rfl ?_); refine store_blk rfl _ _ _ rfl g 1 #[wordV d1, wordV d2, wordV d3, wordV d4, wordV d5, wordV d6, wordV d7, wordV d8] rfl rfl (cs' := #[.bool true, wordV d1, wordV d2, wordV d3, wordV d4, wordV d5, wordV d6, wordV d7, wordV d8, .slice (some ⟨ga, o, none⟩) 64 64, .int .u64 (l.length : Int)]) HXW.out ?h5 ?h6 ?h7 ?h8 ?_; (case h5 => simp); (case h6 => kernel_rfl); (case h7 => simp [Value.oneCell']); (case h8 => simp [putsA]); intro w6 hx6 ho6 hs6; have X6 := Lib.hid hx6; have O6 := Lib.hid ho6; clear hx6 ho6 hs6; have g9 := (X6.out.cell 9).trans rfl; have h9 := X6.out.frozen 9)
        have e0 : l.length - 64 * (i + 1) = 0 := by have := HN.out; omega
        have hl9 := X6.out.put 9 (.slice (some ⟨ga, o, none⟩) 0 0) rfl
        refine ⟨⟨i + 1, some ⟨ga, o, none⟩, 0, by have := HN.out; omega, by rw [e0, HM.out]; exact hl9, ?_, hoff, by omega, O4.out.trans (O6.out.trans (Only.set _ _ _ _))⟩, ?_⟩
        · rw [List.drop_eq_nil_of_le (by omega)]; exact Cells.nil _ _
        · rw [leftAt_blk hl9 rfl, leftAt_blk HX.out rfl]; decide
      · have hc65 : ¬ 64 = cap := fun e => hc64 e.symm
        go_wp2_with ((with_reducible refine at_store (t := 272) rfl ?_); refine store_blk rfl _ _ _ rfl g 1 #[wordV d1, wordV d2, wordV d3, wordV d4, wordV d5, wordV d6, wordV d7, wordV d8] rfl rfl (cs' := #[.bool true, wordV d1, wordV d2, wordV d3, wordV d4, wordV d5, wordV d6, wordV d7, wordV d8, .slice (some ⟨ga, o, none⟩) n cap, .int .u64 (l.length : Int)]) HXW.out ?h9 ?ha ?hb ?hc ?_; (case h9 => simp); (case ha => kernel_rfl); (case hb => simp [Value.oneCell']); (case hc => simp [putsA]); intro w6 hx6 ho6 hs6; have X6 := Lib.hid hx6; have O6 := Lib.hid ho6; clear hx6 ho6 hs6; have g9 := (X6.out.cell 9).trans rfl; have h9 := X6.out.frozen 9)
        have e0 : l.length - 64 * (i + 1) = n - 64 := by have := HN.out; omega
        have hl9 := X6.out.put 9 (.slice (some ⟨ga, o + 64, none⟩) (n - 64) (cap - 64)) rfl
        have hoff' : ∀ a, some (⟨ga, o + 64, none⟩ : Addr) = some a → a.block ≠ g := by
          rintro a ha
          cases ha
          exact hoff ⟨ga, o, none⟩ rfl
        refine ⟨⟨i + 1, some ⟨ga, o + 64, none⟩, cap - 64, by have := HN.out; omega, by rw [e0, HM.out]; exact hl9, ?_, hoff', by omega, O4.out.trans (O6.out.trans (Only.set _ _ _ _))⟩, ?_⟩
        · have C0 : Cells wr (some ⟨ga, o + 64, none⟩) ((l.drop (64 * (i + 1))).map byteV) := fun _ => ⟨ga, o + 64, rfl, fun j u hj => by
            have := HCL.out (64 + j) u (by rw [← hj, List.getElem?_map, List.getElem?_map, List.getElem?_drop, List.getElem?_drop]; congr 2; omega)
            rwa [← Nat.add_assoc] at this⟩
          exact (C0.ext EW.out).only hoff' (O6.out.trans (Only.set _ _ _ _))
        · rw [leftAt_blk hl9 rfl, leftAt_blk HX.out rfl]; omega
    · have b1 : decide ((64 : Int) ≤ (n : Int)) = false := by rw [decide_eq_false_iff_not]; omega
      have HI := Lib.hid (show i = l.length / 64 by omega)
      have HX := Lib.hid hx
      have HC := Lib.hid hc
      have HN := Lib.hid hn
      clear hx hc hn
      go_wp2_with fail
      go_end0
      refine ⟨rfl, ⟨A, cap, ?_, ?_, ?_, hcap.2⟩, (Only.of_below g B1.out).trans (O2.out.trans ((Only.set g 10 _ _).trans (O3.out.trans ho)))⟩
      · rw [List.length_drop, ← HI.out, ← HN.out, hm]; exact HX.out
      · rw [← HI.out]; exact HC.out
      · rw [List.length_drop, ← HI.out, ← HN.out]; exact hcap.1
end Go.Proofs.YtmlfnidckfeebaaGreatDoor
namespace Go.Proofs.YtmlfnidckfeebaaGreatDoor
open Go.RowKit
attribute [local go_sem] yUpon
theorem appU8 : AppStat Tryz.prog 172 5 1 1 := by
  refine ⟨Tryz.underlying172, by decide, by decide, ?_⟩
  obtain ⟨i0, hi, hz0, hz1, hz2⟩ := info_parts (show (Tryz.prog.info? 5).map (fun i => (i.zero, i.size, i.bytes)) = some (some (.int .u8 0), 1, 1) by kernel_rfl)
  exact ⟨i0, _, hi, hz0, hz1, hz2, rfl⟩
theorem bytes_one (l : Sp.Bs) : ∀ u ∈ l.map byteV, u.oneCell' = true := by
  intro u hu
  obtain ⟨c, _, rfl⟩ := List.mem_map.1 hu
  rfl
def lenV : Value → Nat
  | .slice _ n _ => n
  | _ => 0
abbrev OwnB (w : World) (B : Nat) (v : Value) (l : Sp.Bs) : Prop := w.ownsRow B 5 1 v l.length (l.map byteV)
theorem OwnB.form {w : World} {B : Nat} {v : Value} {l : Sp.Bs} (h : OwnB w B v l) : ∃ A cap, v = .slice A l.length cap ∧ OwnB w B (.slice A l.length cap) l := by
  obtain ⟨A, cap, rfl, _⟩ := own_read h
  exact ⟨A, cap, rfl, h⟩
theorem own_empty (w : World) (B : Nat) (t : TypeId) (h : B ≤ w.heap.size) : (w.alloc (.cells #[] t)).ownsRow B t 1 (.slice (some ⟨w.heap.size, 0, none⟩) 0 0) 0 [] :=
  World.ownsRow_lit w #[] 0 h (by unfold maxLen; omega) rfl
theorem be8_take (M k : Nat) (hk : k < 8) : (Sp.be8 M).take (k + 1) = (Sp.be8 M).take k ++ [UInt8.ofNat (M / 2 ^ (56 - 8 * k))] := by
  have hl : k < (Sp.be8 M).length := by rw [Sp.be8_len]; exact hk
  rw [List.take_succ_eq_append_getElem hl]
  simp [Sp.be8]
theorem index8 (c1 c2 c3 c4 c5 c6 c7 c8 : UInt32) (k : Nat) (hk : k < 8) (w : World) : (Instr.index 272 (.agg #[wordV c1, wordV c2, wordV c3, wordV c4, wordV c5, wordV c6, wordV c7, wordV c8]) (.int .i64 k)).run Tryz.prog w = .ok (wordV ([c1, c2, c3, c4, c5, c6, c7, c8].getD k 0)) w := by
  rcases k with _ | _ | _ | _ | _ | _ | _ | _ | k
  case succ.succ.succ.succ.succ.succ.succ.succ => omega
  all_goals kernel_rfl
theorem digC_set (l : Sp.Bs) (i : Nat) (x : UInt8) : (digC l).setIfInBounds i (.int .u8 x.toNat) = digC (l.set i x) := by
  apply Array.ext'
  simp [digC, List.map_set, byteV]
theorem fill4 (l : Sp.Bs) (a b c d : UInt8) (n : Nat) : ((((l ++ List.replicate (n + 4) 0).set l.length a).set (l.length + 1) b).set (l.length + 2) c).set (l.length + 3) d = (l ++ [a, b, c, d]) ++ List.replicate n 0 := by
  rw [show List.replicate (n + 4) (0 : UInt8) = 0 :: 0 :: 0 :: 0 :: List.replicate n 0 from rfl]
  induction l with
  | nil => rfl
  | cons x r ih =>
    rw [show (x :: r).length + 1 = (r.length + 1) + 1 from rfl, show (x :: r).length + 2 = (r.length + 2) + 1 from rfl, show (x :: r).length + 3 = (r.length + 3) + 1 from rfl, show (x :: r).length = r.length + 1 from rfl]
    simp only [List.cons_append, List.set_cons_succ]
    rw [ih]
theorem digest_snoc (h : List UInt32) (x : UInt32) : Sp.digest (h ++ [x]) = Sp.digest h ++ [UInt8.ofNat (x.toNat / 16777216), UInt8.ofNat (x.toNat / 65536), UInt8.ofNat (x.toNat / 256), UInt8.ofNat x.toNat] := by
  unfold Sp.digest; rw [List.flatMap_append]; rfl
theorem byte_of (x n : Nat) : ((UInt8.ofNat (x / n)).toNat : Int) = (x : Int) / (n : Int) % 256 := by
  rw [UInt8.toNat_ofNat', Int.natCast_emod, Int.natCast_ediv]
  rfl
abbrev zero32 : Array Value := digC (List.replicate 32 0)
set_option maxRecDepth 100000 in
set_option maxHeartbeats 4000000 in
theorem svalue_calls (g : Nat) (h : List UInt32) (rest : Sp.Bs) (N : Nat) (w : World) (hh : h.length = 8) (hr : rest.length ≤ 1000) (hN : N ≤ 100000000000) (K : KeysAt w 2) (hx : SumAt w g h rest N) :
    Calls Tryz.prog 291 #[.pointer (some ⟨g, 0, none⟩)] w fun e w' => e = .returned (.agg (digC (Sp.digest (Sp.mixN ((rest ++ Sp.padding rest.length N).length / 64) h (rest ++ Sp.padding rest.length N))))) ∧ Ext w w' := by
  obtain ⟨a1, a2, a3, a4, a5, a6, a7, a8, rfl⟩ := len8 h hh
  obtain ⟨A, cap, hb, hc, hcap⟩ := hx
  replace hb : isBlk w g 325 #[.bool true, wordV a1, wordV a2, wordV a3, wordV a4, wordV a5, wordV a6, wordV a7, wordV a8, .slice A rest.length cap, .int .u64 (N : Int)] := hb
  have HB := Lib.hid hb
  have HC := Lib.hid hc
  clear hb hc
  have tok2 : True := trivial
  have tok3 : True := trivial
  have tok4 : True := trivial
  have tok5 : True := trivial
  go_enter Tryz.func291, Tryz.ntmps291
  go_wp2_with (first
    | (have _t2 := tok2; ((with_reducible refine at_alloc (t := 36) rfl ?_); refine box_new rfl (cs := zero32) (t := 36) (by first | (go_simp; done) | (go_simp; rfl)) ?_; intro g2 w2 hg2 hx2 hb2; have H2 := Lib.hid hx2; have B2 := Lib.hid hb2; have GG2 := Lib.hid hg2; clear tok2 _t2 hx2 hb2 hg2))
    | (have _t3 := tok3; ((with_reducible refine at_alloc (t := 36) rfl ?_); refine box_new rfl (cs := zero32) (t := 36) (by first | (go_simp; done) | (go_simp; rfl)) ?_; intro g3 w3 hg3 hx3 hb3; have H3 := Lib.hid hx3; have B3 := Lib.hid (Ext.trans B2.out hb3); have E23 := Lib.hid hb3; have GG3 := Lib.hid hg3; clear tok3 _t3 hx3 hb3 hg3; have z := HB.out.below B3.out; have f0 := (z.cell 0).trans rfl; have f1 := (z.cell 1).trans rfl; have f2 := (z.cell 2).trans rfl; have f3 := (z.cell 3).trans rfl; have f4 := (z.cell 4).trans rfl; have f5 := (z.cell 5).trans rfl; have f6 := (z.cell 6).trans rfl; have f7 := (z.cell 7).trans rfl; have f8 := (z.cell 8).trans rfl; have f9 := (z.cell 9).trans rfl; have f10 := (z.cell 10).trans rfl; have gl := z.lt; have gl' := Nat.ne_of_lt gl; clear z))
    | (have _t4 := tok4; at_builtin; have B4 := Lib.hid (show w3.heap.size + 1 ≤ (w3.alloc (.cells #[wordV a1, wordV a2, wordV a3, wordV a4, wordV a5, wordV a6, wordV a7, wordV a8] 272)).heap.size by simp); refine app_cells appU8 rfl _ _ rfl (w3.heap.size + 1) _ 0 [] rfl (by have := own_empty _ _ 5 B4.out; rw [World.size_alloc] at this; exact this) A rest.length cap (rest.map byteV) rfl (by simp) ((HC.out.ext B3.out).ext ((Ext.alloc _ _).trans (Ext.alloc _ _))) (bytes_one _) (by omega) (by simp) ?_; intro v4 w4 hown4 hgr4 hb4; rw [Nat.zero_add, List.nil_append] at hown4; obtain ⟨A4, cap4, rfl, hO4⟩ := OwnB.form hown4; have O4 := Lib.hid hO4; have BB4 := Lib.hid hb4; clear hown4 hgr4 hb4 hO4 f0 f1 f2 f3 f4 f5 f6 f7 f8 f9 f10 gl gl' tok4 _t4)
    | (have _t5 := tok5; at_builtin; refine app_new appU8 rfl _ _ rfl (w3.heap.size + 1) _ rest.length _ rfl O4.out #[.int .u8 128] 5 1 rfl rfl (by intro u hu; simp at hu; subst hu; rfl) (by decide) (by omega) (by have := BB4.out.size; simp at this; omega) ?_; intro g5 cap5 w5 hown5 hgr5 hb5 hbg5; have O5 := Lib.hid hown5; have BB5 := Lib.hid (BB4.out.trans hb5); clear hown5 hgr5 hb5 hbg5 tok5 _t5))
  have E35 := Lib.hid (((Ext.alloc _ _).trans (Ext.alloc _ _)).from' (BB5.out.mono (Nat.le_succ w3.heap.size)))
  have X4 := Lib.hid (show isBlk w5 w3.heap.size 272 #[wordV a1, wordV a2, wordV a3, wordV a4, wordV a5, wordV a6, wordV a7, wordV a8] from
    (BB5.out.block w3.heap.size (Nat.lt_succ_self _)).trans ((box_at w3 _ _).below (Ext.alloc _ _)))
  obtain ⟨B, hBB⟩ : ∃ B, B = w3.heap.size + 1 := ⟨_, rfl⟩
  obtain ⟨r, hrr⟩ : ∃ r, r = rest.length := ⟨_, rfl⟩
  rw [← hBB] at O5 BB5
  rw [← hrr] at O5 hr ⊢
  have HR := Lib.hid hrr
  have HBB := Lib.hid hBB
  have F5 := Lib.hid (show w5.ownsRow B 5 1 (.slice (some ⟨g5, 0, none⟩) (r + 1) cap5) (r + 1 + 0) ((rest ++ 128 :: List.replicate 0 0).map byteV) by
    rw [List.map_append]; exact O5.out)
  obtain ⟨Z, hZ⟩ : ∃ Z, Z = (119 - r % 64) % 64 := ⟨_, rfl⟩
  have HZ := Lib.hid hZ
  clear hrr hBB O5 hZ
  go_loopw [5] (fun v5 wr => ∃ z A cap, z ≤ Z ∧ v5 = .slice A (r + 1 + z) cap ∧ wr.ownsRow B 5 1 (.slice A (r + 1 + z) cap) (r + 1 + z) ((rest ++ 128 :: List.replicate z 0).map byteV) ∧ Below B w5 wr) (fun v5 _ => r + 65 - lenV v5)
  case atStart => exact ⟨0, _, cap5, Nat.zero_le _, rfl, F5.out, Below.refl _ _⟩
  case round =>
    obtain ⟨z, A6, cap6, hz, rfl, hown, hb⟩ := hrel
    by_cases hlt : z < Z
    · obtain ⟨n, hn⟩ : ∃ n, n = r + 1 + z := ⟨_, rfl⟩
      have hn64 : n ≤ r + 64 := by have := HZ.out; omega
      have b1 : ((n : Int) % 64 == 56) = false := by rw [beq_eq_false_iff_ne]; have := HZ.out; omega
      have b2 : ((n : Int) % 64 != 56) = true := by rw [bne_iff_ne]; have := HZ.out; omega
      rw [← hn] at hown ⊢
      have HN := Lib.hid hn
      have HO := Lib.hid hown
      have HB6 := Lib.hid hb
      clear hn hown hb
      go_wp2_with (at_builtin; refine app_new appU8 rfl _ _ rfl B _ n _ rfl HO.out #[.int .u8 0] 5 1 rfl rfl (by intro u hu; simp at hu; subst hu; rfl) (by decide) (by omega) (by have := HB6.out.size; have := BB5.out.size; have := HBB.out; simp at *; omega) ?_; intro g7 cap7 w7 hown7 hgr7 hb7 hbg7; have O7 := Lib.hid hown7; have B7 := Lib.hid (HB6.out.trans hb7); clear hown7 hgr7 hb7 hbg7)
      go_roundw
      case rel =>
        refine ⟨z + 1, _, cap7, by omega, by rw [HN.out]; rfl, ?_, B7.out⟩
        have := O7.out
        rw [HN.out] at this
        rw [List.replicate_succ', ← List.cons_append, ← List.append_assoc, List.map_append]
        exact this
      case measure => simp [lenV]; have := HN.out; omega
    · obtain rfl : z = Z := by omega
      obtain ⟨n, hn⟩ : ∃ n, n = r + 1 + z := ⟨_, rfl⟩
      have b1 : ((n : Int) % 64 == 56) = true := by rw [beq_iff_eq]; have := HZ.out; omega
      have b2 : ((n : Int) % 64 != 56) = false := by rw [bne_eq_false_iff_eq]; have := HZ.out; omega
      have hn64 : n ≤ 1100 := by have := HZ.out; omega
      obtain ⟨p0, hp0⟩ : ∃ p0 : Sp.Bs, p0 = rest ++ 128 :: List.replicate z 0 := ⟨_, rfl⟩
      rw [← hp0] at hown
      rw [← hn] at hown ⊢
      have HN := Lib.hid hn
      have HP0 := Lib.hid hp0
      have HO := Lib.hid (show wr.ownsRow B 5 1 (.slice A6 n cap6) (n + 0) ((p0 ++ (Sp.be8 (N * 8)).take 0).map byteV) by rw [List.take_zero, List.append_nil]; exact hown)
      have HB6 := Lib.hid hb
      have y10 := Lib.hid (show w5.cell? ⟨g, 10, none⟩ = some (.int .u64 (N : Int)) from E35.out.cell (((HB.out.below B3.out).cell 10).trans rfl))
      have GB := Lib.hid (show g < B by have := (HB.out.below B3.out).lt; have := HBB.out; omega)
      clear hn hown hb hp0
      go_wp2_with fail
      go_loopw [5, 38] (fun v5 v38 wr => ∃ k A cap, k ≤ 8 ∧ v38 = .int .i64 (k : Nat) ∧ v5 = .slice A (n + k) cap ∧ wr.ownsRow B 5 1 (.slice A (n + k) cap) (n + k) ((p0 ++ (Sp.be8 (N * 8)).take k).map byteV) ∧ Below B w5 wr) (fun _ v38 _ => 8 - (intOf v38).toNat)
      case atStart => exact ⟨0, A6, cap6, by decide, rfl, rfl, HO.out, HB6.out⟩
      case round =>
        obtain ⟨k, A7, cap7, hk, rfl, rfl, hown, hb⟩ := hrel
        by_cases hlt : k < 8
        · have c10 : wr.cell? ⟨g, 10, none⟩ = some (.int .u64 (N : Int)) := (hb.cell (p := ⟨g, 10, none⟩) GB.out).trans y10.out
          obtain ⟨m, hm⟩ : ∃ m, m = n + k := ⟨_, rfl⟩
          obtain ⟨M, hM⟩ : ∃ M, M = N * 8 := ⟨_, rfl⟩
          obtain ⟨k8, hk8⟩ : ∃ k8, k8 = 8 * k := ⟨_, rfl⟩
          obtain ⟨e, he⟩ : ∃ e, e = 56 - k8 := ⟨_, rfl⟩
          have e0 : (N : Int) * 8 = (M : Int) := by omega
          have e1 : 8 * (k : Int) = (k8 : Int) := by omega
          have e2 : 56 - (k8 : Int) = (e : Int) := by omega
          have e3 : min e 64 = e := by omega
          have w0 : IntKind.u64.wrap (M : Int) = (M : Int) := by rw [IntKind.wrap_u64]; omega
          have w0' : IntKind.u64.wrap ((N : Int) * 8) = (M : Int) := by rw [IntKind.wrap_u64]; omega
          obtain ⟨c, hc⟩ : ∃ c, c = UInt8.ofNat (M / 2 ^ e) := ⟨_, rfl⟩
          have e4 : (M : Int) / 2 ^ e % 256 = (c.toNat : Int) := by
            rw [hc, UInt8.toNat_ofNat']
            norm_cast
          have TK := Lib.hid (show (Sp.be8 M).take (k + 1) = (Sp.be8 M).take k ++ [c] by rw [be8_take M k hlt, hc, he, hk8])
          rw [← hm, ← hM] at hown
          rw [← hm]
          have HO := Lib.hid hown
          have HBq := Lib.hid hb
          have HM := Lib.hid hm
          have HMM := Lib.hid hM
          clear hown hb hm hM he hk8 hc
          go_wp2_with (at_builtin; refine app_new appU8 rfl _ _ rfl B _ m _ rfl HO.out #[.int .u8 c.toNat] 5 1 rfl rfl (by intro u hu; simp at hu; subst hu; rfl) (by decide) (by have := HM.out; omega) (by have := HBq.out.size; have := BB5.out.size; have := HBB.out; simp at *; omega) ?_; intro g7 cap8 w7 hown7 hgr7 hb7 hbg7; have O7 := Lib.hid hown7; have B7 := Lib.hid (HBq.out.trans hb7); clear hown7 hgr7 hb7 hbg7)
          go_roundw
          case rel =>
            refine ⟨k + 1, _, cap8, by omega, by go_num, by rw [HM.out]; rfl, ?_, B7.out⟩
            have := O7.out
            rw [HM.out] at this
            rw [← HMM.out, TK.out, ← List.append_assoc, List.map_append]
            exact this
          case measure => simp [intOf]; omega
        · obtain rfl : k = 8 := by omega
          rw [show ((8 : Nat) : Int) = 8 from rfl]
          obtain ⟨p, hp⟩ : ∃ p, p = p0 ++ Sp.be8 (N * 8) := ⟨_, rfl⟩
          obtain ⟨L, hL⟩ : ∃ L, L = n + 8 := ⟨_, rfl⟩
          rw [List.take_of_length_le (by rw [Sp.be8_len]; exact Nat.le_refl _), ← hp, ← hL] at hown
          rw [← hL]
          have PP := Lib.hid (show rest ++ Sp.padding rest.length N = p by
            rw [hp, HP0.out]; unfold Sp.padding; rw [← HR.out, ← HZ.out]; simp)
          have LP := Lib.hid (show p.length = L by have := own_len hown; simpa using this)
          have L64 := Lib.hid (show L % 64 = 0 by have := HN.out; have := HZ.out; omega)
          obtain ⟨g4, hg4⟩ : ∃ g4, g4 = w3.heap.size := ⟨_, rfl⟩
          rw [← hg4] at X4 ⊢
          have G4B := Lib.hid (show g4 < B by have := HBB.out; omega)
          have XW := Lib.hid ((hb.block g4 G4B.out).trans X4.out)
          obtain ⟨A8, hA8⟩ : ∃ A8 : Option Addr, A8 = A7 := ⟨_, rfl⟩
          have C7 := Lib.hid (show Cells wr A7 (p.map byteV) by
            obtain ⟨A9, cap9, he, hce⟩ := own_read hown
            cases he; exact hce)
          have OFF := Lib.hid (own_off hown)
          have CAP := Lib.hid (own_cap hown)
          obtain ⟨wB, hwB⟩ : ∃ wB, wB = wr := ⟨_, rfl⟩
          have EB := Lib.hid (show Ext w wB by
            rw [hwB]
            exact (B3.out.trans E35.out).from' (hb.mono (by have := B3.out.size; have := HBB.out; omega)))
          have KB := Lib.hid (K.ext EB.out)
          have GK := Lib.hid (show 2 ≠ g4 by have := cell_lt (K 0 (by decide)); have := B3.out.size; omega)
          have HG4 := Lib.hid hg4
          have SZB := Lib.hid (show B ≤ wB.heap.size by rw [hwB]; have := hb.size; have := E35.out.size; have := BB5.out.size; have := HBB.out; simp at *; omega)
          have H3B := Lib.hid (show isBlk wB g3 36 zero32 by
            rw [hwB]
            exact (hb.block g3 (by have := H3.out.lt; have := HBB.out; omega)).trans (H3.out.below E35.out))
          have H2B := Lib.hid (show isBlk wB g2 36 zero32 by
            rw [hwB]
            exact (hb.block g2 (by have := H2.out.lt; have := GG3.out; have := H3.out.lt; have := HBB.out; omega)).trans ((H2.out.below E23.out).below E35.out))
          rw [← hwB] at XW C7
          clear hown hb hp hL hg4 hA8
          subst hwB
          go_wp2_with fail
          go_loopw [5] (fun v5 wr => ∃ i A cap, 64 * i ≤ L ∧ v5 = .slice A (L - 64 * i) cap ∧ Cells wr A ((p.drop (64 * i)).map byteV) ∧ (∀ a, A = some a → B ≤ a.block) ∧ (L - 64 * i ≤ cap ∧ cap ≤ 9223372036854775807) ∧ isBlk wr g4 272 (wordsC (Sp.mixN i [a1, a2, a3, a4, a5, a6, a7, a8] p)) ∧ Only g4 wB wr) (fun v5 _ => lenV v5)
          case atStart => exact ⟨0, A7, cap7, by omega, rfl, by simpa using C7.out, OFF.out, by simpa using CAP.out, XW.out, Only.refl _ _⟩
          case round =>
            obtain ⟨i, A9, cap9, hi, rfl, hc, hoff, hcap, hx, ho⟩ := hrel
            obtain ⟨c1, c2, c3, c4, c5, c6, c7, c8, hm⟩ := len8 _ (Sp.mixN_len i [a1, a2, a3, a4, a5, a6, a7, a8] p rfl)
            rw [hm] at hx
            replace hx : isBlk wr g4 272 #[wordV c1, wordV c2, wordV c3, wordV c4, wordV c5, wordV c6, wordV c7, wordV c8] := hx
            obtain ⟨m, hmm⟩ : ∃ m, m = L - 64 * i := ⟨_, rfl⟩
            rw [← hmm] at hcap ⊢
            by_cases h64 : 0 < m
            · have h64' : 64 ≤ m := by have := L64.out; omega
              have hne : (p.drop (64 * i)).map byteV ≠ [] := by intro e; have hlp := LP.out; have := congrArg List.length e; simp at this; omega
              obtain ⟨ga, o, rfl, hcl⟩ := hc hne
              have b3 : decide (0 < m) = true := decide_eq_true h64
              have i64 : (64 : Int) ≤ (m : Int) := by omega
              obtain ⟨blk, hblk⟩ : ∃ blk, blk = (p.drop (64 * i)).take 64 := ⟨_, rfl⟩
              have bl : blk.length = 64 := by have := LP.out; rw [hblk, List.length_take, List.length_drop]; omega
              have rng : ∀ W, Ext wr W → W.rangeAt ga o (blk.map byteV) := fun W e j v hj => by
                refine e.cell (hcl j v ?_)
                rw [hblk, List.map_take, List.getElem?_take] at hj
                split at hj
                · exact hj
                · cases hj
              obtain ⟨d1, d2, d3, d4, d5, d6, d7, d8, hd⟩ := len8 (Sp.mix [c1, c2, c3, c4, c5, c6, c7, c8] blk) (Sp.mix_len _ _ rfl)
              have MC := Lib.hid fun W (e : Ext wr W) => mix_calls [c1, c2, c3, c4, c5, c6, c7, c8] blk W rfl bl ((KB.out.only GK.out ho).ext e)
              rw [hd, show wordsC [c1, c2, c3, c4, c5, c6, c7, c8] = #[wordV c1, wordV c2, wordV c3, wordV c4, wordV c5, wordV c6, wordV c7, wordV c8] from rfl, show wordsC [d1, d2, d3, d4, d5, d6, d7, d8] = #[wordV d1, wordV d2, wordV d3, wordV d4, wordV d5, wordV d6, wordV d7, wordV d8] from rfl] at MC
              have HX := Lib.hid hx
              have HM2 := Lib.hid (show Sp.mixN (i + 1) [a1, a2, a3, a4, a5, a6, a7, a8] p = [d1, d2, d3, d4, d5, d6, d7, d8] by rw [Sp.mixN_snoc, hm, ← hblk, hd])
              have RNG := Lib.hid rng
              have BL := Lib.hid bl
              have HCL := Lib.hid hcl
              have HO := Lib.hid ho
              have HMM := Lib.hid hmm
              clear hx hm hblk bl rng hcl ho hc hd hmm hne
              go_wp2_with fail
              refine wp_region_det_tail (fun W => Ext wr W) 5 (by kernel_rfl) (by kernel_rfl) (Ext.refl _).drew ?_
              simp only [List.take_succ_cons, List.take_zero, List.drop_succ_cons, List.drop_zero]
              repeat (first
                | (refine det_step (fun K hK => ?_); (refine det_load_mid rfl 346 _ rfl ga o rfl (blk.map byteV) _ (fun W hS => RNG.out W hS) Tryz.underlying346 rfl (by rw [List.length_map, BL.out]; kernel_rfl) ?_); go_simp; refine hK _ ?_; clear hK K)
                | (refine det_step (fun K hK => ?_)
                   apply Exists.intro
                   refine ⟨Or.inl ⟨rfl, fun W hS => ?_⟩, ?_⟩
                   · have hz : Ext wr W := hS; have z := HX.out.below hz; have f0 := (z.cell 0).trans rfl; have f1 := (z.cell 1).trans rfl; have f2 := (z.cell 2).trans rfl; have f3 := (z.cell 3).trans rfl; have f4 := (z.cell 4).trans rfl; have f5 := (z.cell 5).trans rfl; have f6 := (z.cell 6).trans rfl; have f7 := (z.cell 7).trans rfl; have hap := run_arrayAt Tryz.underlying346 ⟨ga, o, none⟩ m cap9 h64' W
                     go_simp
                     first
                     | exact rfl
                     | exact ⟨rfl, hS⟩
                     | (refine (MC.out W hz).mono ?_; rintro e w5 ⟨rfl, hb5⟩; exact ⟨rfl, hz.trans hb5⟩)
                   go_simp
                   refine hK _ ?_
                   clear hK K)
                | (refine det_step (fun K hK => ?_); refine det_no' rfl ?_; go_simp; refine hK _ ?_; clear hK K))
              refine det_nil ?_
              intro W hS
              replace hS : Ext wr W := hS
              have HXW := Lib.hid (HX.out.below hS)
              have O4' := Lib.hid (HO.out.trans (Only.of_below g4 hS))
              have EW := Lib.hid hS
              clear hS
              have hoffg : ∀ a, some (⟨ga, o, none⟩ : Addr) = some a → a.block ≠ g4 := fun a ha => by have := hoff a ha; have := G4B.out; omega
              by_cases hc64 : cap9 = 64
              · subst hc64
                obtain rfl : m = 64 := by omega
                go_wp2_with ((with_reducible refine at_store (t := 272) rfl ?_); refine wpList_store_row rfl _ _ _ rfl g4 _ rfl rfl 272 _ HXW.out (by kernel_rfl) rfl (by simp [Value.oneCell']) ?_)
                have e0 : L - 64 * (i + 1) = 0 := by have := HMM.out; omega
                refine ⟨⟨i + 1, some ⟨ga, o, none⟩, 0, by have := HMM.out; omega, by rw [e0], ?_, hoff, by omega, by rw [HM2.out]; exact setRow_heap _ _ _ _ _ _ HXW.out, O4'.out.trans (Only.setRow _ _ _)⟩, by simp [lenV]⟩
                rw [List.drop_eq_nil_of_le (by have := LP.out; omega)]; exact Cells.nil _ _
              · have hc65 : ¬ 64 = cap9 := fun e => hc64 e.symm
                go_wp2_with ((with_reducible refine at_store (t := 272) rfl ?_); refine wpList_store_row rfl _ _ _ rfl g4 _ rfl rfl 272 _ HXW.out (by kernel_rfl) rfl (by simp [Value.oneCell']) ?_)
                have e0 : L - 64 * (i + 1) = m - 64 := by have := HMM.out; omega
                have hoff' : ∀ a, some (⟨ga, o + 64, none⟩ : Addr) = some a → B ≤ a.block := by
                  rintro a ha
                  cases ha
                  exact hoff ⟨ga, o, none⟩ rfl
                refine ⟨⟨i + 1, some ⟨ga, o + 64, none⟩, cap9 - 64, by have := HMM.out; omega, by rw [e0], ?_, hoff', by omega, by rw [HM2.out]; exact setRow_heap _ _ _ _ _ _ HXW.out, O4'.out.trans (Only.setRow _ _ _)⟩, by simp [lenV]; omega⟩
                have C0 : Cells wr (some ⟨ga, o + 64, none⟩) ((p.drop (64 * (i + 1))).map byteV) := fun _ => ⟨ga, o + 64, rfl, fun j u hj => by
                  have := HCL.out (64 + j) u (by rw [← hj, List.getElem?_map, List.getElem?_map, List.getElem?_drop, List.getElem?_drop]; congr 2; omega)
                  rwa [← Nat.add_assoc] at this⟩
                exact (C0.ext EW.out).only (fun a ha => by have := hoff' a ha; have := G4B.out; omega) (Only.setRow _ _ _)
            · obtain rfl : m = 0 := by omega
              have FH := Lib.hid (show Sp.mixN ((rest ++ Sp.padding rest.length N).length / 64) [a1, a2, a3, a4, a5, a6, a7, a8] (rest ++ Sp.padding rest.length N) = [c1, c2, c3, c4, c5, c6, c7, c8] by
                rw [PP.out, LP.out, show L / 64 = i by omega, hm])
              have f0 := (hx.cell 0).trans rfl
              have f1 := (hx.cell 1).trans rfl
              have f2 := (hx.cell 2).trans rfl
              have f3 := (hx.cell 3).trans rfl
              have f4 := (hx.cell 4).trans rfl
              have f5 := (hx.cell 5).trans rfl
              have f6 := (hx.cell 6).trans rfl
              have f7 := (hx.cell 7).trans rfl
              have H3w := Lib.hid (ho.blk H3B.out (show g3 ≠ g4 by have := H3.out.lt; have := HG4.out; omega))
              have H2w := Lib.hid (ho.blk H2B.out (show g2 ≠ g4 by have := (H2.out.below E23.out).lt; have := HG4.out; omega))
              have EQ := Lib.hid (EB.out.from' (ho.below (show w.heap.size ≤ g4 by have := B3.out.size; have := HG4.out; omega) EB.out.size))
              have b0 : decide (0 < 0) = false := by decide
              have G23 := Lib.hid (show g2 ≠ g3 by have := H2.out.lt; have := GG3.out; omega)
              clear hx ho hmm hm hc
              go_wp2_with fail
              obtain ⟨wC, hwC⟩ : ∃ wC, wC = wr := ⟨_, rfl⟩
              rw [← hwC] at H3w H2w EQ ⊢
              have GW3 := Lib.hid (show w.heap.size ≤ g3 by have := B2.out.size; have := GG3.out; omega)
              clear f0 f1 f2 f3 f4 f5 f6 f7 hwC
              go_loopw [66] (fun v66 wr => ∃ k : Nat, k ≤ 8 ∧ v66 = .int .i64 k ∧ isBlk wr g3 36 (digC (Sp.digest ([c1, c2, c3, c4, c5, c6, c7, c8].take k) ++ List.replicate (32 - 4 * k) 0)) ∧ Only g3 wC wr) (fun v66 _ => 8 - (intOf v66).toNat)
              case atStart => exact ⟨0, by decide, rfl, H3w.out, Only.refl _ _⟩
              case round =>
                obtain ⟨k, hk, rfl, hx, ho⟩ := hrel
                by_cases hlt : k < 8
                · have hidx := index8 c1 c2 c3 c4 c5 c6 c7 c8 k hlt
                  have hlk : k < ([c1, c2, c3, c4, c5, c6, c7, c8] : List UInt32).length := hlt
                  have dl : (Sp.digest ([c1, c2, c3, c4, c5, c6, c7, c8].take k)).length = 4 * k := by
                    rw [Sp.digest_len, List.length_take, Nat.min_eq_left (Nat.le_of_lt hlk)]; omega
                  have tk := List.take_succ_eq_append_getElem hlk
                  obtain ⟨x, hxx⟩ : ∃ x, x = [c1, c2, c3, c4, c5, c6, c7, c8].getD k 0 := ⟨_, rfl⟩
                  have hx2 : [c1, c2, c3, c4, c5, c6, c7, c8][k] = x := by rw [hxx, List.getD_eq_getElem?_getD, List.getElem?_eq_getElem hlk]; rfl
                  rw [hx2] at tk
                  rw [← hxx] at hidx
                  obtain ⟨m, hm⟩ : ∃ m, m = 4 * k := ⟨_, rfl⟩
                  obtain ⟨m1, hm1⟩ : ∃ m1, m1 = m + 1 := ⟨_, rfl⟩
                  obtain ⟨m2, hm2⟩ : ∃ m2, m2 = m + 2 := ⟨_, rfl⟩
                  obtain ⟨m3, hm3⟩ : ∃ m3, m3 = m + 3 := ⟨_, rfl⟩
                  obtain ⟨y0, hy0⟩ : ∃ y : UInt8, y = UInt8.ofNat (x.toNat / 16777216) := ⟨_, rfl⟩
                  obtain ⟨y1, hy1⟩ : ∃ y : UInt8, y = UInt8.ofNat (x.toNat / 65536) := ⟨_, rfl⟩
                  obtain ⟨y2, hy2⟩ : ∃ y : UInt8, y = UInt8.ofNat (x.toNat / 256) := ⟨_, rfl⟩
                  obtain ⟨y3, hy3⟩ : ∃ y : UInt8, y = UInt8.ofNat x.toNat := ⟨_, rfl⟩
                  have z0 : wd x / (16777216 : Int) % 256 = (y0.toNat : Int) := by rw [hy0, byte_of]; rfl
                  have z1 : wd x / (65536 : Int) % 256 = (y1.toNat : Int) := by rw [hy1, byte_of]; rfl
                  have z2 : wd x / (256 : Int) % 256 = (y2.toNat : Int) := by rw [hy2, byte_of]; rfl
                  have z3 : wd x % 256 = (y3.toNat : Int) := by rw [hy3, UInt8.toNat_ofNat']; unfold wd; norm_cast
                  have e1 : 4 * (k : Int) = (m : Int) := by omega
                  have e2 : (m : Int) + 1 = (m1 : Int) := by omega
                  have e3 : (m : Int) + 2 = (m2 : Int) := by omega
                  have e4 : (m : Int) + 3 = (m3 : Int) := by omega
                  have l0 : (m : Int) < 32 := by omega
                  have l1 : (m1 : Int) < 32 := by omega
                  have l2 : (m2 : Int) < 32 := by omega
                  have l3 : (m3 : Int) < 32 := by omega
                  have f4 := fill4 (Sp.digest ([c1, c2, c3, c4, c5, c6, c7, c8].take k)) y0 y1 y2 y3 (32 - 4 * (k + 1))
                  rw [show 32 - 4 * (k + 1) + 4 = 32 - 4 * k by omega, dl, ← hm, ← hm1, ← hm2, ← hm3, hy0, hy1, hy2, hy3, ← digest_snoc, ← tk, ← hy0, ← hy1, ← hy2, ← hy3] at f4
                  have dl2 : (Sp.digest ([c1, c2, c3, c4, c5, c6, c7, c8].take k) ++ List.replicate (32 - 4 * k) (0 : UInt8)).length = 32 := by rw [List.length_append, dl, List.length_replicate]; omega
                  obtain ⟨D, hD⟩ : ∃ D, D = Sp.digest ([c1, c2, c3, c4, c5, c6, c7, c8].take k) ++ List.replicate (32 - m) (0 : UInt8) := ⟨_, rfl⟩
                  rw [← hm, ← hD] at hx dl2
                  rw [← hD] at f4
                  obtain ⟨u0', k0⟩ : ∃ u : Int, wr.cell? ⟨g3, m, none⟩ = some (.int .u8 u) := ⟨_, (hx.cell m).trans (digC_get D m (by omega))⟩
                  obtain ⟨u1', k1⟩ : ∃ u : Int, wr.cell? ⟨g3, m1, none⟩ = some (.int .u8 u) := ⟨_, (hx.cell m1).trans (digC_get D m1 (by omega))⟩
                  obtain ⟨u2', k2⟩ : ∃ u : Int, wr.cell? ⟨g3, m2, none⟩ = some (.int .u8 u) := ⟨_, (hx.cell m2).trans (digC_get D m2 (by omega))⟩
                  obtain ⟨u3', k3⟩ : ∃ u : Int, wr.cell? ⟨g3, m3, none⟩ = some (.int .u8 u) := ⟨_, (hx.cell m3).trans (digC_get D m3 (by omega))⟩
                  have fr0 := hx.frozen m
                  have fr1 := hx.frozen m1
                  have fr2 := hx.frozen m2
                  have fr3 := hx.frozen m3
                  have n01 : m ≠ m1 := by omega
                  have n02 : m ≠ m2 := by omega
                  have n03 : m ≠ m3 := by omega
                  have n12 : m1 ≠ m2 := by omega
                  have n13 : m1 ≠ m3 := by omega
                  have n23 : m2 ≠ m3 := by omega
                  have HX := Lib.hid hx
                  have HO := Lib.hid ho
                  have F4 := Lib.hid f4
                  clear hx ho f4 tk hx2 hxx hD dl dl2 hy0 hy1 hy2 hy3 hlk hm hm1 hm2 hm3
                  go_wp2_with fail
                  go_roundw
                  case rel =>
                    refine ⟨k + 1, by omega, by go_num, ?_, HO.out.trans ((((Only.set _ _ _ _).trans (Only.set _ _ _ _)).trans (Only.set _ _ _ _)).trans (Only.set _ _ _ _))⟩
                    have hp := (((HX.out.put m (.int .u8 y0.toNat) rfl).put m1 (.int .u8 y1.toNat) rfl).put m2 (.int .u8 y2.toNat) rfl).put m3 (.int .u8 y3.toNat) rfl
                    rw [digC_set, digC_set, digC_set, digC_set, F4.out] at hp
                    exact hp
                  case measure => simp [intOf]; omega
                · obtain rfl : k = 8 := by omega
                  have HX := Lib.hid (show isBlk wr g3 36 (digC (Sp.digest [c1, c2, c3, c4, c5, c6, c7, c8])) by simpa using hx)
                  obtain ⟨arr, ha⟩ : ∃ arr, arr = digC (Sp.digest [c1, c2, c3, c4, c5, c6, c7, c8]) := ⟨_, rfl⟩
                  have ws : arr.size = 32 := by rw [ha, digC_size, Sp.digest_len]; rfl
                  have w1 : arr.all (·.oneCell') = true := by rw [ha]; exact all_oneCell_toArray (bytes_one _)
                  have FA := Lib.hid (show digC (Sp.digest (Sp.mixN ((rest ++ Sp.padding rest.length N).length / 64) [a1, a2, a3, a4, a5, a6, a7, a8] (rest ++ Sp.padding rest.length N))) = arr by rw [FH.out, ha])
                  have HA := Lib.hid ha
                  rw [← ha] at HX
                  have H2z := Lib.hid (ho.blk H2w.out G23.out)
                  have HO := Lib.hid ho
                  clear hx ho ha
                  go_wp2_with (first
                    | ((with_reducible refine at_load (t := 36) rfl ?_); refine wpList_load_row rfl _ _ rfl g3 rfl 36 arr (0, 0) _ HX.out Tryz.underlying36 rfl (by rw [ws]; kernel_rfl) ?_)
                    | ((with_reducible refine at_store (t := 36) rfl ?_); refine wpList_store_row rfl _ _ _ rfl g2 arr rfl rfl 36 _ H2z.out (by rw [ws]; kernel_rfl) (by rw [ws]; rfl) w1 ?_))
                  refine bodyPost_ret (results_cell_row rfl _ _ g2 36 arr (0, 0) _ rfl (setRow_heap _ _ _ _ _ _ H2z.out) Tryz.underlying36 rfl (by rw [ws]; kernel_rfl)) rfl ?_
                  exact ⟨by rw [FA.out], below_setRow (EQ.out.from' (HO.out.below GW3.out EQ.out.size)) (by have := GG2.out; omega) _⟩
end Go.Proofs.YtmlfnidckfeebaaGreatDoor
