/- A part of a block is written, or read, at once. Walks: a block's words. Walks: a block goes in. Walks: a digest's text goes in. -/
import Derived.Deep.MidRow
import Derived.Laws.Tables
import Derived.Laws.CopyOwn
import Derived.WalkSpells
import Derived.Test.YtmlfnidckfeebaaGreatDoorRF006
namespace Go.Proofs.YtmlfnidckfeebaaGreatDoor
open Go.RowKit
def putsA (cs : Array Value) : Nat → List Value → Array Value
  | _, [] => cs
  | o, v :: r => putsA (cs.setIfInBounds o v) (o + 1) r
theorem isBlk.puts : ∀ (vs : List Value) (o : Nat) {w : World} {g : Nat} {t : TypeId} {cs : Array Value}, isBlk w g t cs → isBlk (w.setCells g o vs) g t (putsA cs o vs)
  | [], _, _, _, _, _, h => h
  | v :: r, o, _, _, _, _, h => isBlk.puts r (o + 1) (h.put o v rfl)
theorem Only.sets (g : Nat) : ∀ (vs : List Value) (o : Nat) (w : World), Only g w (w.setCells g o vs)
  | [], _, w => Only.refl g w
  | v :: r, o, w => (Only.set g o v w).trans (Only.sets g r (o + 1) _)
theorem sets_size (g : Nat) : ∀ (vs : List Value) (o : Nat) (w : World), (w.setCells g o vs).heap.size = w.heap.size
  | [], _, _ => rfl
  | v :: r, o, w => by rw [World.setCells, sets_size g r (o + 1)]; simp
theorem isBlk.rangeAt {w : World} {g : Nat} {t : TypeId} {cs : Array Value} (h : isBlk w g t cs) (o : Nat) (vs : List Value) (hv : ∀ j v, vs[j]? = some v → cs[o + j]? = some v) : w.rangeAt g o vs := fun j v hj => by rw [h.cell (o + j)]; exact hv j v hj
section
variable {P : Program} {ops : Array Oper} {rest : List Oper} {o : Oper} {a : Act} {Q : Exit → Act → World → Prop} {w : World}
theorem at_load {t : TypeId} {x : Operand} (_ho : o.op = .load t x) (h : wpList P ops Q (o :: rest) a w) : wpList P ops Q (o :: rest) a w := h
theorem at_store {t : TypeId} {x y : Operand} (_ho : o.op = .store t x y) (h : wpList P ops Q (o :: rest) a w) : wpList P ops Q (o :: rest) a w := h
theorem store_blk (hgd : o.guard = none) (ty : TypeId) (x y : Operand) (ho : o.op = .store ty x y) (b off : Nat) (cells : Array Value) (hx : a.eval x = .pointer (some ⟨b, off, none⟩)) (hy : a.eval y = .agg cells)
    {t : TypeId} {cs cs' : Array Value} (hb : isBlk w b t cs) (hlt : off + cells.size ≤ cs.size) (hi : (P.info? ty).map (·.size) = some cells.size) (h1 : cells.all (·.oneCell') = true) (hcs : putsA cs off cells.toList = cs')
    (h : ∀ w', isBlk w' b t cs' → Only b w w' → w'.heap.size = w.heap.size → wpList P ops Q rest (a.put o.dst undef) w') : wpList P ops Q (o :: rest) a w := by
  refine wpList_store_mid hgd ty x y ho b off cells hx hy ?_ hi h1 ?_
  · intro j hj
    rw [hb.cell (off + j), hb.frozen (off + j)]
    exact ⟨by rw [Array.getElem?_eq_getElem (by omega)]; rfl, rfl⟩
  · exact h _ (by rw [← hcs]; exact hb.puts _ _) (Only.sets _ _ _ _) (sets_size _ _ _ _)
end
theorem det_load_mid {P : Program} {ops : Array Oper} {S : World → Prop} {a : Act} {o : Oper} {K : Act → Prop} (hw : Region.wanted o (yielded ops a.tmps) = true) (ty : TypeId) (x : Operand) (ho : o.op = .load ty x) (b off : Nat) (hx : a.eval x = .pointer (some ⟨b, off, none⟩)) (vs : List Value) (d : TypeDesc)
    (hc : ∀ W, S W → W.rangeAt b off vs) (hu : P.underlying ty = some d) (hd : d.isRow = true) (hi : (P.info? ty).map (·.size) = some vs.length) (h : K (a.put o.dst (.agg vs.toArray))) : ∃ v, YieldsS P ops S o v a ∧ K (a.put o.dst v) := by
  refine ⟨_, .inl ⟨hw, fun W hS => ?_⟩, h⟩
  unfold execOp
  simp only [ho, hx, Sem.run_bind, run_loadAt_mid W b off ty vs d (hc W hS) hu hd hi, Result.andThen_ok, Sem.run_pure]
  exact ⟨rfl, hS⟩
end Go.Proofs.YtmlfnidckfeebaaGreatDoor
namespace Go.Proofs.YtmlfnidckfeebaaGreatDoor
open Go.RowKit
attribute [local go_sem] yUpon w_add w_xor w_and w_or w_wrap w_shl8 w_shl16 w_shl24 w_shr3 w_shr10
abbrev zero64 : Array Value := wordsC (List.replicate 64 0)
theorem byte_word (b : Sp.Bs) (i : Nat) (h : i < b.length) : ∃ x : UInt32, x = (b.getD i 0).toUInt32 ∧ x.toNat < 256 ∧ (digC b)[i]? = some (.int .u8 (wd x)) := by
  refine ⟨_, rfl, ?_, ?_⟩
  · rw [UInt8.toNat_toUInt32]; exact (b.getD i 0).toNat_lt
  · unfold wd
    rw [digC_get b i h, UInt8.toNat_toUInt32]
    simp [byteV, List.getD_eq_getElem?_getD, h]
theorem first_succ (b : Sp.Bs) (k : Nat) : Sp.first b (k + 1) = Sp.first b k ++ [Sp.be b k] := by
  unfold Sp.first; rw [List.range_succ, List.map_append]; rfl
theorem set_mid {α} (l : List α) (x y : α) (m : List α) : (l ++ y :: m).set l.length x = l ++ x :: m := by
  rw [List.set_append_right _ _ (Nat.le_refl _)]; simp
theorem fill_step (l : List UInt32) (x : UInt32) (n : Nat) (h : l.length < n) : (l ++ List.replicate (n - l.length) 0).set l.length x = (l ++ [x]) ++ List.replicate (n - (l ++ [x]).length) 0 := by
  obtain ⟨m, hm⟩ : ∃ m, n - l.length = m + 1 := ⟨n - l.length - 1, by omega⟩
  rw [hm, List.replicate_succ, set_mid, List.append_assoc, List.length_append]
  congr 2
  rw [show n - (l.length + [x].length) = m by simp; omega]
  rfl
set_option maxRecDepth 100000 in
set_option maxHeartbeats 4000000 in
theorem spread_calls (b : Sp.Bs) (w : World) (hb : b.length = 64) : Calls Tryz.prog 322 #[.agg (digC b)] w fun e w' => e = .returned (.agg (wordsC (Sp.sched b 48))) ∧ Ext w w' := by
  have hds := digC_size b
  obtain ⟨arr, ha⟩ : ∃ arr, arr = wordsC (Sp.sched b 48) := ⟨_, rfl⟩
  rw [← ha]
  have HA := Lib.hid ha
  clear ha
  have tok2 : True := trivial
  have tok3 : True := trivial
  go_enter Tryz.func322, Tryz.ntmps322
  go_wp2_with (first
    | (have _t2 := tok2; ((with_reducible refine at_alloc (t := 274) rfl ?_); refine box_new rfl (cs := zero64) (t := 274) (by first | (go_simp; done) | (go_simp; rfl)) ?_; intro g2 w2 hg2 hx2 hb2; clear tok2 _t2))
    | (have _t3 := tok3; ((with_reducible refine at_alloc (t := 274) rfl ?_); refine box_new rfl (cs := zero64) (t := 274) (by first | (go_simp; done) | (go_simp; rfl)) ?_; intro g3 w3 hg3 hx3 hb3; clear tok3 _t3)))
  have E3 := Lib.hid ((Ext.alloc w (.cells (digC b) 346)).trans (Ext.trans hb2 hb3))
  have X1 := Lib.hid ((box_at w (digC b) 346).below (Ext.trans hb2 hb3))
  have X2 := Lib.hid (hx2.below hb3)
  have N12 := Lib.hid (show w.heap.size ≠ g3 by have := (Ext.alloc w (.cells (digC b) 346)).size; have := hb2.size; simp at *; omega)
  have N23 := Lib.hid (show g2 ≠ g3 by have := hx2.lt; omega)
  have G3 := Lib.hid (show w.heap.size ≤ g3 by have := hb2.size; simp at *; omega)
  have G2 := Lib.hid (show w.heap.size ≤ g2 by simp at hg2; omega)
  have X3 := Lib.hid hx3
  clear hx2 hx3 hb2 hb3 hg2 hg3
  go_loopw [10] (fun v10 wr => ∃ k : Nat, k ≤ 16 ∧ v10 = .int .i64 k ∧ isBlk wr g3 274 (wordsC (Sp.first b k ++ List.replicate (64 - k) 0)) ∧ Only g3 w3 wr) (fun v10 _ => 16 - (intOf v10).toNat)
  case atStart => exact ⟨0, by decide, rfl, by rw [show Sp.first b 0 = [] from rfl]; exact X3.out, Only.refl _ _⟩
  case round =>
    obtain ⟨k, hk, rfl, hx, ho⟩ := hrel
    by_cases hlt : k < 16
    · obtain ⟨m, hm⟩ : ∃ m, m = 4 * k := ⟨_, rfl⟩
      obtain ⟨m1, hm1⟩ : ∃ m1, m1 = m + 1 := ⟨_, rfl⟩
      obtain ⟨m2, hm2⟩ : ∃ m2, m2 = m + 2 := ⟨_, rfl⟩
      obtain ⟨m3, hm3⟩ : ∃ m3, m3 = m + 3 := ⟨_, rfl⟩
      have e1 : 4 * (k : Int) = (m : Int) := by omega
      have q0 : IntKind.i64.wrap (m : Int) = (m : Int) := IntWalk.i64_in _ (by omega)
      have q1 : IntKind.i64.wrap ((m : Int) + 1) = (m1 : Int) := by rw [hm1]; exact IntWalk.i64_in _ (by omega)
      have q2 : IntKind.i64.wrap ((m : Int) + 2) = (m2 : Int) := by rw [hm2]; exact IntWalk.i64_in _ (by omega)
      have q3 : IntKind.i64.wrap ((m : Int) + 3) = (m3 : Int) := by rw [hm3]; exact IntWalk.i64_in _ (by omega)
      obtain ⟨x0, h0, l0, c0⟩ := byte_word b m (by omega)
      obtain ⟨x1, h1, l1, c1⟩ := byte_word b m1 (by omega)
      obtain ⟨x2, h2, l2, c2⟩ := byte_word b m2 (by omega)
      obtain ⟨x3, h3, l3, c3⟩ := byte_word b m3 (by omega)
      have hbe : Sp.be b k = x0 <<< 24 ||| x1 <<< 16 ||| x2 <<< 8 ||| x3 := by rw [h0, h1, h2, h3, hm1, hm2, hm3, hm]; rfl
      have b0 : (m : Int) < 64 := by omega
      have b1 : (m1 : Int) < 64 := by omega
      have b2 : (m2 : Int) < 64 := by omega
      have b3 : (m3 : Int) < 64 := by omega
      have Z := ho.blk X1.out N12.out
      clear h0 h1 h2 h3 hm1 hm2 hm3 hm
      go_wp2_with fail
      refine wp_region_det_tail (fun W => Ext wr W) 30 (by kernel_rfl) (by kernel_rfl) (Ext.refl _).drew ?_
      simp only [List.take_succ_cons, List.take_zero, List.drop_succ_cons, List.drop_zero]
      repeat (first
        | (refine det_step (fun K hK => ?_)
           apply Exists.intro
           refine ⟨Or.inl ⟨rfl, fun W hS => ?_⟩, ?_⟩
           · have hz : Ext wr W := hS; have z := Z.below hz; have f0 := (z.cell m).trans c0; have f1 := (z.cell m1).trans c1; have f2 := (z.cell m2).trans c2; have f3 := (z.cell m3).trans c3
             go_simp
             first
             | exact rfl
             | exact ⟨rfl, hS⟩
             | (fail)
           go_simp
           refine hK _ ?_
           clear hK K)
        | (refine det_step (fun K hK => ?_); refine det_no' rfl ?_; go_simp; refine hK _ ?_; clear hK K))
      refine det_nil ?_
      intro W hS
      replace hS : Ext wr W := hS
      have ln := Sp.first_len b k
      have hxW := hx.below hS
      have g0 := (hxW.cell k).trans (wordsC_get _ k (by rw [List.length_append, List.length_replicate, ln]; omega))
      have g1 := hxW.frozen k
      have HX := Lib.hid hxW
      have HO := Lib.hid (ho.trans (Only.of_below g3 hS))
      clear hx hxW ho Z ln
      go_wp2_with fail
      go_roundw
      case rel =>
        refine ⟨k + 1, by omega, by go_num, ?_, HO.out.trans (Only.set _ _ _ _)⟩
        have := HX.out.put k (wordV (x0 <<< 24 ||| x1 <<< 16 ||| x2 <<< 8 ||| x3)) rfl
        rw [wordsC_set] at this
        have fs := fill_step (Sp.first b k) (Sp.be b k) 64 (by rw [Sp.first_len]; omega)
        rw [Sp.first_len, ← first_succ, Sp.first_len, hbe] at fs
        rw [fs] at this
        exact this
      case measure => simp [intOf]; omega
    · obtain rfl : k = 16 := by omega
      rw [show ((16 : Nat) : Int) = 16 from rfl]
      go_wp2_with fail
      go_loopw [5] (fun v5 wr => ∃ n : Nat, n ≤ 48 ∧ v5 = .int .i64 ((16 + n : Nat) : Int) ∧ isBlk wr g3 274 (wordsC (Sp.sched b n ++ List.replicate (48 - n) 0)) ∧ Only g3 w3 wr) (fun v5 _ => 64 - (intOf v5).toNat)
      case atStart => exact ⟨0, by decide, rfl, hx, ho⟩
      case round =>
        obtain ⟨n, hn, rfl, hx, ho⟩ := hrel
        by_cases hlt : n < 48
        · have ln := Sp.sched_len b n
          obtain ⟨i, hi⟩ : ∃ i, i = 16 + n := ⟨_, rfl⟩
          obtain ⟨j16, h16⟩ : ∃ j, j = i - 16 := ⟨_, rfl⟩
          obtain ⟨j15, h15⟩ : ∃ j, j = i - 15 := ⟨_, rfl⟩
          obtain ⟨j7, h7⟩ : ∃ j, j = i - 7 := ⟨_, rfl⟩
          obtain ⟨j2, h2⟩ : ∃ j, j = i - 2 := ⟨_, rfl⟩
          have q16 : IntKind.i64.wrap ((i : Int) - 16) = (j16 : Int) := by rw [IntWalk.i64_in _ (by omega)]; omega
          have q15 : IntKind.i64.wrap ((i : Int) - 15) = (j15 : Int) := by rw [IntWalk.i64_in _ (by omega)]; omega
          have q7 : IntKind.i64.wrap ((i : Int) - 7) = (j7 : Int) := by rw [IntWalk.i64_in _ (by omega)]; omega
          have q2 : IntKind.i64.wrap ((i : Int) - 2) = (j2 : Int) := by rw [IntWalk.i64_in _ (by omega)]; omega
          have cellAt : ∀ j, j < i → (wordsC (Sp.sched b n ++ List.replicate (48 - n) 0))[j]? = some (wordV ((Sp.sched b n).getD j 0)) := fun j hj => by
            rw [wordsC_get _ j (by rw [List.length_append, List.length_replicate, ln]; omega), List.getD_eq_getElem?_getD, List.getElem?_append_left (by rw [ln]; omega), List.getD_eq_getElem?_getD]
          have k16 := cellAt j16 (by omega)
          have k15 := cellAt j15 (by omega)
          have k7 := cellAt j7 (by omega)
          have k2 := cellAt j2 (by omega)
          have nx : Sp.next (Sp.sched b n) = (Sp.sched b n).getD j16 0 + Sp.lowS ((Sp.sched b n).getD j15 0) + (Sp.sched b n).getD j7 0 + Sp.highS ((Sp.sched b n).getD j2 0) := by
            unfold Sp.next; rw [ln, h16, h15, h7, h2, hi]
          obtain ⟨x16, y16⟩ : ∃ x, x = (Sp.sched b n).getD j16 0 := ⟨_, rfl⟩
          obtain ⟨x15, y15⟩ : ∃ x, x = (Sp.sched b n).getD j15 0 := ⟨_, rfl⟩
          obtain ⟨x7, y7⟩ : ∃ x, x = (Sp.sched b n).getD j7 0 := ⟨_, rfl⟩
          obtain ⟨x2, y2⟩ : ∃ x, x = (Sp.sched b n).getD j2 0 := ⟨_, rfl⟩
          rw [← y16] at k16 nx
          rw [← y15] at k15 nx
          rw [← y7] at k7 nx
          rw [← y2] at k2 nx
          have b0 : (i : Int) < 64 := by omega
          have b16 : (j16 : Int) < 64 := by omega
          have b15 : (j15 : Int) < 64 := by omega
          have b7 : (j7 : Int) < 64 := by omega
          have b2 : (j2 : Int) < 64 := by omega
          have HI := Lib.hid hi
          have NX := Lib.hid nx
          rw [← hi]
          clear h16 h15 h7 h2 y16 y15 y7 y2 cellAt hi nx ln
          go_wp2_with fail
          refine wp_region_det (fun W => Ext wr W) (by kernel_rfl) (by kernel_rfl) (Below.refl _ _).drew ?_
          repeat (first
            | (refine det_step (fun K hK => ?_)
               apply Exists.intro
               refine ⟨Or.inl ⟨rfl, fun W hS => ?_⟩, ?_⟩
               · replace hS : Ext wr W := hS
                 have z := hx.below hS; have f0 := (z.cell j15).trans k15; have f1 := (z.cell j2).trans k2
                 go_simp
                 first
                 | exact rfl
                 | exact ⟨rfl, hS⟩
                 | (fail)
               go_simp
               refine hK _ ?_
               clear hK K)
            | (refine det_step (fun K hK => ?_); refine det_no' rfl ?_; go_simp; refine hK _ ?_; clear hK K))
          refine det_nil ?_
          intro W9 hS
          replace hS : Ext _ W9 := hS
          go_wp2_with (go_at_call 323; refine (turned_calls _ _ _ (by decide)).mono ?_; rintro e w4 ⟨rfl, rfl⟩)
          have o1 : Ext wr W9 := hS
          refine wp_region_det_tail (fun W => Ext wr W) 14 (by kernel_rfl) (by kernel_rfl) o1.drew ?_
          simp only [List.take_succ_cons, List.take_zero, List.drop_succ_cons, List.drop_zero]
          repeat (first
            | (refine det_step (fun K hK => ?_)
               apply Exists.intro
               refine ⟨Or.inl ⟨rfl, fun W hS => ?_⟩, ?_⟩
               · have hz : Ext wr W := hS; have z := hx.below hz; have f0 := (z.cell j16).trans k16; have f1 := (z.cell j7).trans k7
                 go_simp
                 first
                 | exact rfl
                 | exact ⟨rfl, hS⟩
                 | (fail)
               go_simp
               refine hK _ ?_
               clear hK K)
            | (refine det_step (fun K hK => ?_); refine det_no' rfl ?_; go_simp; refine hK _ ?_; clear hK K))
          refine det_nil ?_
          intro W hS
          replace hS : Ext wr W := hS
          have ln := Sp.sched_len b n
          have hxW := hx.below hS
          have g0 := (hxW.cell i).trans (wordsC_get _ i (by rw [List.length_append, List.length_replicate, ln, HI.out]; omega))
          have g1 := hxW.frozen i
          have HX := Lib.hid hxW
          have HO := Lib.hid (ho.trans (Only.of_below g3 hS))
          clear hx hxW ho ln k16 k15 k7 k2 o1
          go_wp2_with fail
          go_roundw
          case rel =>
            refine ⟨n + 1, by omega, by rw [HI.out]; go_num, ?_, HO.out.trans (Only.set _ _ _ _)⟩
            have := HX.out.put i (wordV (x16 + (Sp.rotr x15 7 ^^^ Sp.rotr x15 18 ^^^ x15 >>> 3) + x7 + (Sp.rotr x2 17 ^^^ Sp.rotr x2 19 ^^^ x2 >>> 10))) rfl
            rw [wordsC_set] at this
            have fs := fill_step (Sp.sched b n) (Sp.next (Sp.sched b n)) 64 (by rw [Sp.sched_len]; omega)
            rw [show Sp.sched b n ++ [Sp.next (Sp.sched b n)] = Sp.sched b (n + 1) from rfl, Sp.sched_len, Sp.sched_len, ← HI.out, show 64 - i = 48 - n by rw [HI.out]; omega, show 64 - (16 + (n + 1)) = 48 - (n + 1) by omega, NX.out] at fs
            unfold Sp.lowS Sp.highS at fs
            rw [fs] at this
            exact this
          case measure => simp [intOf]; omega
        · obtain rfl : n = 48 := by omega
          have hx' : isBlk wr g3 274 (wordsC (Sp.sched b 48)) := by simpa using hx
          have ws := wordsC_size (Sp.sched b 48)
          have sl := Sp.sched_len b 48
          have w1 := wordsC_one (Sp.sched b 48)
          have HX := Lib.hid hx'
          have H2 := Lib.hid (ho.blk X2.out N23.out)
          have HO := Lib.hid ho
          rw [← HA.out] at HX ws w1
          clear hx hx' ho
          go_wp2_with (first
            | ((with_reducible refine at_load (t := 274) rfl ?_); refine wpList_load_row rfl _ _ rfl g3 rfl 274 arr (0, 0) _ HX.out Tryz.underlying274 rfl (by rw [ws, sl]; kernel_rfl) ?_)
            | ((with_reducible refine at_store (t := 274) rfl ?_); refine wpList_store_row rfl _ _ _ rfl g2 arr rfl rfl 274 zero64 H2.out (by rw [ws, sl]; kernel_rfl) (by rw [ws, sl]; rfl) w1 ?_))
          refine bodyPost_ret (results_cell_row rfl _ _ g2 274 arr (0, 0) _ rfl (setRow_heap _ _ _ _ _ _ H2.out) Tryz.underlying274 rfl (by rw [ws, sl]; kernel_rfl)) rfl ?_
          exact ⟨rfl, below_setRow (E3.out.from' (HO.out.below G3.out E3.out.size)) G2.out _⟩
def KeysAt (w : World) (g : Nat) : Prop := ∀ i, i < 64 → w.cell? ⟨g, i, none⟩ = some (wordV (Sp.keys.getD i 0))
theorem KeysAt.ext {w w' : World} {g : Nat} (h : KeysAt w g) (e : Ext w w') : KeysAt w' g := fun i hi => e.cell (h i hi)
theorem len8 (l : List UInt32) (h : l.length = 8) : ∃ a b c d e f g x, l = [a, b, c, d, e, f, g, x] := by
  match l, h with
  | [a, b, c, d, e, f, g, x], _ => exact ⟨a, b, c, d, e, f, g, x, rfl⟩
theorem w_not' (x : UInt32) : bits .xor .u32 IntKind.u32.max (wd x) = wd (~~~x) := by
  have e : IntKind.u32.max = wd (4294967295 : UInt32) := rfl
  rw [e, w_xor]
  congr 1
attribute [local go_sem] w_not'
theorem Only.setRow (g : Nat) (cs : Array Value) (w : World) : Only g w (w.setRow g cs) := ⟨rfl, rfl, rfl, by simp [World.setRow], fun k _ hn => setRow_other _ _ _ _ hn⟩
theorem zip_step (L H : List UInt32) (k n : Nat) (hL : L.length = n) (hH : H.length = n) (hk : k < n) :
    ((List.zipWith (· + ·) L H).take k ++ L.drop k).set k (L.getD k 0 + H.getD k 0) = (List.zipWith (· + ·) L H).take (k + 1) ++ L.drop (k + 1) := by
  have hz : (List.zipWith (· + ·) L H).length = n := by rw [List.length_zipWith, hL, hH]; omega
  have ht : ((List.zipWith (· + ·) L H).take k).length = k := by rw [List.length_take, hz]; omega
  rw [List.drop_eq_getElem_cons (by omega)]
  have := set_mid ((List.zipWith (· + ·) L H).take k) (L.getD k 0 + H.getD k 0) (L[k]'(by omega)) (L.drop (k + 1))
  rw [ht] at this
  rw [this, List.take_succ_eq_append_getElem (by omega), List.append_assoc]
  simp [List.getD_eq_getElem?_getD, List.getElem?_eq_getElem (show k < L.length by omega), List.getElem?_eq_getElem (show k < H.length by omega)]
theorem zip_get (L H : List UInt32) (k n : Nat) (hL : L.length = n) (hH : H.length = n) (hk : k < n) :
    ((List.zipWith (· + ·) L H).take k ++ L.drop k).getD k 0 = L.getD k 0 := by
  have hz : (List.zipWith (· + ·) L H).length = n := by rw [List.length_zipWith, hL, hH]; omega
  have ht : ((List.zipWith (· + ·) L H).take k).length = k := by rw [List.length_take, hz]; omega
  rw [List.getD_eq_getElem?_getD, List.getElem?_append_right (by omega), ht, Nat.sub_self, List.getElem?_drop, List.getD_eq_getElem?_getD]
  rfl
theorem index_words (l : List UInt32) (k : Nat) (hl : l.length = 64) (hk : k < 64) (w : World) : (Instr.index 274 (.agg (wordsC l)) (.int .i64 k)).run Tryz.prog w = .ok (wordV (l.getD k 0)) w := by
  have hg := wordsC_get l k (by omega)
  have hs := Tryz.sizeOf244
  simp [Instr.index, run_underlying Tryz.underlying274, asIntOf, hk, part, hg]
set_option maxRecDepth 100000 in
set_option maxHeartbeats 8000000 in
theorem mix_calls (h : List UInt32) (b : Sp.Bs) (w : World) (hh : h.length = 8) (hb : b.length = 64) (K : KeysAt w 2) :
    Calls Tryz.prog 314 #[.agg (wordsC h), .agg (digC b)] w fun e w' => e = .returned (.agg (wordsC (Sp.mix h b))) ∧ Ext w w' := by
  have hds := digC_size b
  obtain ⟨arr, ha⟩ : ∃ arr, arr = wordsC (Sp.mix h b) := ⟨_, rfl⟩
  rw [← ha]
  have HA := Lib.hid ha
  clear ha
  obtain ⟨a1, a2, a3, a4, a5, a6, a7, a8, rfl⟩ := len8 h hh
  rw [show wordsC [a1, a2, a3, a4, a5, a6, a7, a8] = #[wordV a1, wordV a2, wordV a3, wordV a4, wordV a5, wordV a6, wordV a7, wordV a8] from rfl]
  obtain ⟨W4, hW4⟩ : ∃ W4, W4 = (((w.alloc (.cells #[wordV a1, wordV a2, wordV a3, wordV a4, wordV a5, wordV a6, wordV a7, wordV a8] 272)).alloc (.cells (digC b) 346)).alloc (.cells #[.int .u32 0, .int .u32 0, .int .u32 0, .int .u32 0, .int .u32 0, .int .u32 0, .int .u32 0, .int .u32 0] 272)).alloc (.cells #[wordV a1, wordV a2, wordV a3, wordV a4, wordV a5, wordV a6, wordV a7, wordV a8] 272) := ⟨_, rfl⟩
  have E4 := Lib.hid (show Ext w W4 by rw [hW4]; exact (((Ext.alloc _ _).trans (Ext.alloc _ _)).trans (Ext.alloc _ _)).trans (Ext.alloc _ _))
  have SZ := Lib.hid (show W4.heap.size = w.heap.size + 4 by rw [hW4]; simp)
  have X1 := Lib.hid (show isBlk W4 w.heap.size 272 #[wordV a1, wordV a2, wordV a3, wordV a4, wordV a5, wordV a6, wordV a7, wordV a8] by
    rw [hW4]; exact (box_at w _ _).below (((Ext.alloc _ _).trans (Ext.alloc _ _)).trans (Ext.alloc _ _)))
  have X2 := Lib.hid (show isBlk W4 (w.heap.size + 1) 346 (digC b) by
    rw [hW4]
    have := box_at (w.alloc (.cells #[wordV a1, wordV a2, wordV a3, wordV a4, wordV a5, wordV a6, wordV a7, wordV a8] 272)) (digC b) 346
    rw [World.size_alloc] at this
    exact this.below ((Ext.alloc _ _).trans (Ext.alloc _ _)))
  have X3 := Lib.hid (show isBlk W4 (w.heap.size + 1 + 1) 272 #[.int .u32 0, .int .u32 0, .int .u32 0, .int .u32 0, .int .u32 0, .int .u32 0, .int .u32 0, .int .u32 0] by
    rw [hW4]
    have := box_at ((w.alloc (.cells #[wordV a1, wordV a2, wordV a3, wordV a4, wordV a5, wordV a6, wordV a7, wordV a8] 272)).alloc (.cells (digC b) 346)) #[.int .u32 0, .int .u32 0, .int .u32 0, .int .u32 0, .int .u32 0, .int .u32 0, .int .u32 0, .int .u32 0] 272
    rw [World.size_alloc, World.size_alloc] at this
    exact this.below (Ext.alloc _ _))
  have X4 := Lib.hid (show isBlk W4 (w.heap.size + 1 + 1 + 1) 272 #[wordV a1, wordV a2, wordV a3, wordV a4, wordV a5, wordV a6, wordV a7, wordV a8] by
    rw [hW4]
    have := box_at (((w.alloc (.cells #[wordV a1, wordV a2, wordV a3, wordV a4, wordV a5, wordV a6, wordV a7, wordV a8] 272)).alloc (.cells (digC b) 346)).alloc (.cells #[.int .u32 0, .int .u32 0, .int .u32 0, .int .u32 0, .int .u32 0, .int .u32 0, .int .u32 0, .int .u32 0] 272)) #[wordV a1, wordV a2, wordV a3, wordV a4, wordV a5, wordV a6, wordV a7, wordV a8] 272
    rwa [World.size_alloc, World.size_alloc, World.size_alloc] at this)
  have HW := Lib.hid hW4.symm
  clear hW4
  have SP := Lib.hid (spread_calls b W4 hb)
  have sl := Sp.sched_len b 48
  obtain ⟨S, hS⟩ : ∃ S, S = Sp.sched b 48 := ⟨_, rfl⟩
  rw [← hS] at SP sl
  have HS := Lib.hid hS
  have SL := Lib.hid (show S.length = 64 from sl)
  have NN := Lib.hid (show w.heap.size ≠ w.heap.size + 1 + 1 + 1 ∧ w.heap.size + 1 + 1 ≠ w.heap.size + 1 + 1 + 1 by omega)
  clear hS sl
  go_enter Tryz.func314, Tryz.ntmps314
  go_wp2_with ((with_reducible refine at_load (t := 346) rfl ?_); rw [HW.out]; refine wpList_load_row rfl _ _ rfl (w.heap.size + 1) rfl 346 (digC b) (0, 0) _ X2.out Tryz.underlying346 rfl (by rw [hds, hb]; kernel_rfl) ?_)
  refine SP.out.mono ?_
  rintro e w5 ⟨rfl, hb5⟩
  go_wp2_with fail
  obtain ⟨g5, hg5⟩ : ∃ g5, g5 = w.heap.size + 1 + 1 + 1 := ⟨_, rfl⟩
  rw [← hg5] at X4 NN ⊢
  have K5 := Lib.hid (K.ext (E4.out.trans hb5))
  have E5 := Lib.hid (E4.out.trans hb5)
  have Y1 := Lib.hid (X1.out.below hb5)
  have Y3 := Lib.hid (X3.out.below hb5)
  have Y4 := Lib.hid (X4.out.below hb5)
  have G5 := Lib.hid (show w.heap.size ≤ g5 by omega)
  have HL8 := Lib.hid (show ([a1, a2, a3, a4, a5, a6, a7, a8] : List UInt32).length = 8 from rfl)
  clear hb5 hg5 X1 X2 X3 X4
  go_loopw [16] (fun v16 wr => ∃ k : Nat, k ≤ 64 ∧ v16 = .int .i64 k ∧ isBlk wr g5 272 (wordsC (Sp.rnds S [a1, a2, a3, a4, a5, a6, a7, a8] k)) ∧ Only g5 w5 wr) (fun v16 _ => 64 - (intOf v16).toNat)
  case atStart => exact ⟨0, by decide, rfl, Y4.out, Only.refl _ _⟩
  case round =>
    obtain ⟨k, hk, rfl, hx, ho⟩ := hrel
    by_cases hlt : k < 64
    · obtain ⟨c1, c2, c3, c4, c5, c6, c7, c8, hl⟩ := len8 _ (Sp.rnds_len S [a1, a2, a3, a4, a5, a6, a7, a8] k HL8.out)
      have ST := Sp.rnds_succ S [a1, a2, a3, a4, a5, a6, a7, a8] k SL.out hlt
      rw [hl] at hx ST
      replace hx : isBlk wr g5 272 #[wordV c1, wordV c2, wordV c3, wordV c4, wordV c5, wordV c6, wordV c7, wordV c8] := hx
      have hidx := index_words S k SL.out hlt
      have ck := (E5.out.from' (ho.below G5.out E5.out.size))
      have kc := K.ext ck k hlt
      obtain ⟨y, hy⟩ : ∃ y, y = S.getD k 0 := ⟨_, rfl⟩
      obtain ⟨kk, hkk⟩ : ∃ kk, kk = Sp.keys.getD k 0 := ⟨_, rfl⟩
      rw [← hy] at hidx ST
      rw [← hkk] at kc ST
      have ST' := Lib.hid ST
      have HX := Lib.hid hx
      have HO := Lib.hid ho
      have KC := Lib.hid kc
      clear hl ST hx ho ck kc hy hkk
      go_wp2_with fail
      refine wp_region_det (fun W => Ext wr W) (by kernel_rfl) (by kernel_rfl) (Below.refl _ _).drew ?_
      repeat (first
        | (refine det_step (fun K hK => ?_)
           apply Exists.intro
           refine ⟨Or.inl ⟨rfl, fun W hS => ?_⟩, ?_⟩
           · replace hS : Ext wr W := hS
             have z := HX.out.below hS; have f0 := (z.cell 0).trans rfl; have f4 := (z.cell 4).trans rfl
             go_simp
             first
             | exact rfl
             | exact ⟨rfl, hS⟩
             | (fail)
           go_simp
           refine hK _ ?_
           clear hK K)
        | (refine det_step (fun K hK => ?_); refine det_no' rfl ?_; go_simp; refine hK _ ?_; clear hK K))
      refine det_nil ?_
      intro W9 hS
      replace hS : Ext _ W9 := hS
      have O1 := Lib.hid hS
      clear hS hidx
      go_wp2_with fail
      refine wp_region_det (fun W => Ext W9 W) (by kernel_rfl) (by kernel_rfl) (Below.refl _ _).drew ?_
      repeat (first
        | (refine det_step (fun K hK => ?_)
           apply Exists.intro
           refine ⟨Or.inl ⟨rfl, fun W hS => ?_⟩, ?_⟩
           · replace hS : Ext W9 W := hS
             have z := HX.out.below (O1.out.trans hS); have f7 := (z.cell 7).trans rfl; have f5 := (z.cell 5).trans rfl; have f6 := (z.cell 6).trans rfl; have fk := (O1.out.trans hS).cell KC.out
             go_simp
             first
             | exact rfl
             | exact ⟨rfl, hS⟩
             | (refine (turned_calls _ _ W (by decide)).mono ?_; rintro e w1 ⟨rfl, rfl⟩; exact ⟨rfl, hS⟩)
           go_simp
           refine hK _ ?_
           clear hK K)
        | (refine det_step (fun K hK => ?_); refine det_no' rfl ?_; go_simp; refine hK _ ?_; clear hK K))
      refine det_nil ?_
      intro W9 hS
      replace hS : Ext _ W9 := hS
      have O2 := Lib.hid (O1.out.trans hS)
      clear hS O1
      go_wp2_with fail
      refine wp_region_det (fun W => Ext W9 W) (by kernel_rfl) (by kernel_rfl) (Below.refl _ _).drew ?_
      repeat (first
        | (refine det_step (fun K hK => ?_)
           apply Exists.intro
           refine ⟨Or.inl ⟨rfl, fun W hS => ?_⟩, ?_⟩
           · replace hS : Ext W9 W := hS
             have z := HX.out.below (O2.out.trans hS); have f1 := (z.cell 1).trans rfl; have f2 := (z.cell 2).trans rfl
             go_simp
             first
             | exact rfl
             | exact ⟨rfl, hS⟩
             | (refine (turned_calls _ _ W (by decide)).mono ?_; rintro e w1 ⟨rfl, rfl⟩; exact ⟨rfl, hS⟩)
           go_simp
           refine hK _ ?_
           clear hK K)
        | (refine det_step (fun K hK => ?_); refine det_no' rfl ?_; go_simp; refine hK _ ?_; clear hK K))
      refine det_nil ?_
      intro W9 hS
      replace hS : Ext _ W9 := hS
      have O3 := Lib.hid (O2.out.trans hS)
      have z := HX.out.below O3.out
      have f0 := (z.cell 0).trans rfl
      have f1 := (z.cell 1).trans rfl
      have f2 := (z.cell 2).trans rfl
      have f3 := (z.cell 3).trans rfl
      have f4 := (z.cell 4).trans rfl
      have f5 := (z.cell 5).trans rfl
      have f6 := (z.cell 6).trans rfl
      have Z := Lib.hid z
      clear hS O2 z
      go_wp2_with ((with_reducible refine at_store (t := 272) rfl ?_); refine wpList_store_row rfl _ _ _ rfl g5 _ rfl rfl 272 _ Z.out (by kernel_rfl) rfl (by simp [Value.oneCell']) ?_)
      go_roundw
      case rel =>
        refine ⟨k + 1, by omega, by go_num, ?_, HO.out.trans ((Only.of_below g5 O3.out).trans (Only.setRow _ _ _))⟩
        rw [ST'.out]
        exact setRow_heap _ _ _ _ _ _ Z.out
      case measure => simp [intOf]; omega
    · obtain rfl : k = 64 := by omega
      rw [show ((64 : Nat) : Int) = 64 from rfl]
      have LL := Sp.rnds_len S [a1, a2, a3, a4, a5, a6, a7, a8] 64 HL8.out
      obtain ⟨L, hL⟩ : ∃ L, L = Sp.rnds S [a1, a2, a3, a4, a5, a6, a7, a8] 64 := ⟨_, rfl⟩
      rw [← hL] at hx LL
      obtain ⟨H, hH⟩ : ∃ H : List UInt32, H = [a1, a2, a3, a4, a5, a6, a7, a8] := ⟨_, rfl⟩
      have MX := Lib.hid (show arr = wordsC (List.zipWith (· + ·) L H) by rw [HA.out, hL, hH, HS.out]; rfl)
      have HH8 := Lib.hid (show H.length = 8 by rw [hH]; rfl)
      have Y1' := Lib.hid (show isBlk w5 w.heap.size 272 (wordsC H) by rw [hH]; exact Y1.out)
      have HLL := Lib.hid LL
      have HX0 := Lib.hid hx
      have HO0 := Lib.hid ho
      clear hL hH LL hx ho
      go_wp2_with fail
      go_loopw [97] (fun v97 wr => ∃ k : Nat, k ≤ 8 ∧ v97 = .int .i64 k ∧ isBlk wr g5 272 (wordsC ((List.zipWith (· + ·) L H).take k ++ L.drop k)) ∧ Only g5 w5 wr) (fun v97 _ => 8 - (intOf v97).toNat)
      case atStart => exact ⟨0, by decide, rfl, HX0.out, HO0.out⟩
      case round =>
        obtain ⟨k, hk, rfl, hx, ho⟩ := hrel
        by_cases hlt : k < 8
        · have z1 := zip_step L H k 8 HLL.out HH8.out hlt
          have z2 := zip_get L H k 8 HLL.out HH8.out hlt
          have zl : ((List.zipWith (· + ·) L H).take k ++ L.drop k).length = 8 := by have := HLL.out; have := HH8.out; simp; omega
          have k1 := wordsC_get ((List.zipWith (· + ·) L H).take k ++ L.drop k) k (by omega)
          have k2 := wordsC_get H k (by rw [HH8.out]; exact hlt)
          rw [z2] at k1
          obtain ⟨x, hxx⟩ : ∃ x, x = L.getD k 0 := ⟨_, rfl⟩
          obtain ⟨y, hyy⟩ : ∃ y, y = H.getD k 0 := ⟨_, rfl⟩
          rw [← hxx] at k1 z1
          rw [← hyy] at k2 z1
          have HX := Lib.hid hx
          have HO := Lib.hid ho
          have YW := Lib.hid (ho.blk Y1'.out NN.out.1)
          have Z1 := Lib.hid z1
          have K1 := Lib.hid k1
          have K2 := Lib.hid k2
          clear hx ho hxx hyy z1 z2 zl k1 k2
          go_wp2_with fail
          refine wp_region_det_tail (fun W => Ext wr W) 7 (by kernel_rfl) (by kernel_rfl) (Ext.refl _).drew ?_
          simp only [List.take_succ_cons, List.take_zero, List.drop_succ_cons, List.drop_zero]
          repeat (first
            | (refine det_step (fun K hK => ?_)
               apply Exists.intro
               refine ⟨Or.inl ⟨rfl, fun W hS => ?_⟩, ?_⟩
               · have hz : Ext wr W := hS; have f0 := ((HX.out.below hz).cell k).trans K1.out; have f1 := ((YW.out.below hz).cell k).trans K2.out
                 go_simp
                 first
                 | exact rfl
                 | exact ⟨rfl, hS⟩
                 | (fail)
               go_simp
               refine hK _ ?_
               clear hK K)
            | (refine det_step (fun K hK => ?_); refine det_no' rfl ?_; go_simp; refine hK _ ?_; clear hK K))
          refine det_nil ?_
          intro W hS
          replace hS : Ext wr W := hS
          have hxW := HX.out.below hS
          have g0 := (hxW.cell k).trans K1.out
          have g1 := hxW.frozen k
          have HXW := Lib.hid hxW
          have HOW := Lib.hid (HO.out.trans (Only.of_below g5 hS))
          clear hxW hS
          go_wp2_with fail
          go_roundw
          case rel =>
            refine ⟨k + 1, by omega, by go_num, ?_, HOW.out.trans (Only.set _ _ _ _)⟩
            have := HXW.out.put k (wordV (x + y)) rfl
            rw [wordsC_set, Z1.out] at this
            exact this
          case measure => simp [intOf]; omega
        · obtain rfl : k = 8 := by omega
          have zl : (List.zipWith (· + ·) L H).length = 8 := by have := HLL.out; have := HH8.out; simp; omega
          have HX := Lib.hid (show isBlk wr g5 272 arr by
            rw [MX.out]
            have := hx
            rwa [List.drop_eq_nil_of_le (by rw [HLL.out]; decide), List.append_nil, List.take_of_length_le (by omega)] at this)
          have ws : arr.size = 8 := by rw [MX.out, wordsC_size, zl]
          have w1 : arr.all (·.oneCell') = true := by rw [MX.out]; exact wordsC_one _
          have H3 := Lib.hid (ho.blk Y3.out NN.out.2)
          have HO := Lib.hid ho
          clear hx ho zl
          go_wp2_with (first
            | ((with_reducible refine at_load (t := 272) rfl ?_); refine wpList_load_row rfl _ _ rfl g5 rfl 272 arr (0, 0) _ HX.out Tryz.underlying272 rfl (by rw [ws]; kernel_rfl) ?_)
            | ((with_reducible refine at_store (t := 272) rfl ?_); refine wpList_store_row rfl _ _ _ rfl (w.heap.size + 1 + 1) arr rfl rfl 272 _ H3.out (by rw [ws]; kernel_rfl) (by rw [ws]; rfl) w1 ?_))
          refine bodyPost_ret (results_cell_row rfl _ _ (w.heap.size + 1 + 1) 272 arr (0, 0) _ rfl (setRow_heap _ _ _ _ _ _ H3.out) Tryz.underlying272 rfl (by rw [ws]; kernel_rfl)) rfl ?_
          exact ⟨rfl, below_setRow (E5.out.from' (HO.out.below G5.out E5.out.size)) (by omega) _⟩
end Go.Proofs.YtmlfnidckfeebaaGreatDoor
namespace Go.Proofs.YtmlfnidckfeebaaGreatDoor
open Go.RowKit
attribute [local go_sem] yUpon
def sumC : List UInt32 → Option Addr → Nat → Nat → Nat → Array Value
  | [a, b, c, d, e, f, g, h], A, n, cap, N => #[.bool true, wordV a, wordV b, wordV c, wordV d, wordV e, wordV f, wordV g, wordV h, .slice A n cap, .int .u64 (N : Int)]
  | _, _, _, _, _ => #[]
def leftAt (w : World) (g : Nat) : Nat := match w.cell? ⟨g, 9, none⟩ with | some (.slice _ n _) => n | _ => 0
def SumAt (w : World) (g : Nat) (h : List UInt32) (rest : Sp.Bs) (N : Nat) : Prop := ∃ A cap, isBlk w g 325 (sumC h A rest.length cap N) ∧ Cells w A (rest.map byteV) ∧ rest.length ≤ cap ∧ cap ≤ 9223372036854775807
theorem own_cap {w : World} {base n cap : Nat} {e : TypeId} {size : Nat} {A : Option Addr} {xs : List Value} (h : w.ownsRow base e size (.slice A n cap) n xs) : n ≤ cap ∧ cap ≤ 9223372036854775807 := by
  rcases h.2 with ⟨h1, h2⟩ | ⟨g, cap', cur, h1, _, _, h3, h4, _⟩
  · cases h1; omega
  · cases h1; unfold maxLen at h4; exact ⟨h3, by omega⟩
theorem own_off {w : World} {base n cap : Nat} {e : TypeId} {size : Nat} {A : Option Addr} {xs : List Value} (h : w.ownsRow base e size (.slice A n cap) n xs) : ∀ a, A = some a → base ≤ a.block := by
  rintro a rfl
  rcases h.2 with ⟨h1, _⟩ | ⟨g, cap', cur, h1, h2, _⟩
  · cases h1
  · cases h1; exact h2
theorem Cells.only {w w' : World} {g : Nat} {A : Option Addr} {cs : List Value} (h : Cells w A cs) (ha : ∀ a, A = some a → a.block ≠ g) (e : Only g w w') : Cells w' A cs := fun hn => by
  obtain ⟨b, o, hA, hc⟩ := h hn
  refine ⟨b, o, hA, fun i u hi => ?_⟩
  have h1 := hc i u hi
  have h2 : w'.heap[b]? = w.heap[b]? := e.block b (cell_lt h1) (ha _ hA)
  unfold World.cell? at h1 ⊢
  rw [h2]; exact h1
theorem KeysAt.only {w w' : World} {k g : Nat} (h : KeysAt w k) (hk : k ≠ g) (e : Only g w w') : KeysAt w' k := fun i hi => by
  have h1 := h i hi
  have h2 : w'.heap[k]? = w.heap[k]? := e.block k (cell_lt h1) hk
  unfold World.cell? at h1 ⊢
  rw [h2]; exact h1
theorem run_arrayAt {P : Program} {T e : TypeId} {n : Nat} (h : P.underlying T = some (.array n e)) (a : Addr) (len cap : Nat) (hn : n ≤ len) (w : World) : (Instr.arrayAt T (.slice (some a) len cap)).run P w = .ok (.pointer (some a)) w := by
  have : ¬ len < n := by omega
  simp [Instr.arrayAt, run_underlying h, this]
theorem leftAt_blk {w : World} {g : Nat} {t : TypeId} {cs : Array Value} {A : Option Addr} {n c : Nat} (h : isBlk w g t cs) (hc : cs[9]? = some (.slice A n c)) : leftAt w g = n := by
  unfold leftAt; rw [h.cell 9, hc]
theorem only_grown {w w' : World} (g : Nat) (h : w.grownBy w' none) : Only g w w' := ⟨h.os, h.tape, h.output, h.size, fun k hk _ => h.block k hk (by simp)⟩
theorem start_calls (w : World) : Calls Tryz.prog 313 #[] w fun e w' => e = .returned (.agg (wordsC Sp.start)) ∧ Ext w w' := by
  go_enter Tryz.func313, Tryz.ntmps313
  go_wp2
  refine bodyPost_ret (results_cell_row rfl _ _ w.heap.size 272 (wordsC Sp.start) (0, 0) _ rfl (heap_alloc_new _ _) Tryz.underlying272 rfl (by kernel_rfl)) rfl ?_
  exact ⟨rfl, Ext.alloc _ _⟩
set_option maxRecDepth 100000 in
set_option maxHeartbeats 2000000 in
theorem swrite_calls (g : Nat) (l : Sp.Bs) (w : World) (hl : l.length ≤ 4000000000) (K : KeysAt w 2)
    (hx : isBlk w g 325 #[.bool false, .int .u32 0, .int .u32 0, .int .u32 0, .int .u32 0, .int .u32 0, .int .u32 0, .int .u32 0, .int .u32 0, .slice none 0 0, .int .u64 0]) :
    Calls Tryz.prog 290 #[.pointer (some ⟨g, 0, none⟩), .string (strOf l)] w fun e w' => e = .returned (.tuple #[]) ∧ SumAt w' g (Sp.mixN (l.length / 64) Sp.start l) (l.drop (64 * (l.length / 64))) l.length ∧ Only g w w' := by
  have c0 := (hx.cell 0).trans rfl
  have sz : (strOf l).size = l.length := strOf_size _
  have ST := Lib.hid (start_calls w)
  obtain ⟨s1, s2, s3, s4, s5, s6, s7, s8, hs⟩ := len8 Sp.start rfl
  rw [hs, show wordsC [s1, s2, s3, s4, s5, s6, s7, s8] = #[wordV s1, wordV s2, wordV s3, wordV s4, wordV s5, wordV s6, wordV s7, wordV s8] from rfl] at ST
  have HX := Lib.hid hx
  have GW := Lib.hid hx.lt
  have KG := Lib.hid (show 2 ≠ g by
    rintro rfl
    have h1 := K 0 (by decide)
    rw [hx.cell 0] at h1
    cases h1)
  have HS := Lib.hid hs
  clear hx hs
  go_enter Tryz.func290, Tryz.ntmps290
  go_wp2_with fail
  refine ST.out.mono ?_
  rintro e w1 ⟨rfl, hb1⟩
  have B1 := Lib.hid hb1
  have z := HX.out.below hb1
  have f0 := (z.cell 0).trans rfl
  have fr0 := z.frozen 0
  clear hb1 c0
  have Z0 := Lib.hid (show isBlk (w1.setCell ⟨g, 0, none⟩ (.bool true)) g 325 #[.bool true, .int .u32 0, .int .u32 0, .int .u32 0, .int .u32 0, .int .u32 0, .int .u32 0, .int .u32 0, .int .u32 0, .slice none 0 0, .int .u64 0] from z.put 0 _ rfl)
  clear z
  obtain ⟨i0, hi, hz0, hz1, hz2⟩ := info_parts (show (Tryz.prog.info? 5).map (fun i => (i.zero, i.size, i.bytes)) = some (some (.int .u8 0), 1, 1) by kernel_rfl)
  have tok1 : True := trivial
  have n1 : IntKind.u64.wrap (l.length : Int) = (l.length : Int) := by rw [IntKind.wrap_u64]; omega
  go_wp2_with (first
    | (have _t := tok1; (with_reducible refine at_store (t := 272) rfl ?_); refine store_blk rfl _ _ _ rfl g 1 #[wordV s1, wordV s2, wordV s3, wordV s4, wordV s5, wordV s6, wordV s7, wordV s8] rfl rfl (cs' := #[.bool true, wordV s1, wordV s2, wordV s3, wordV s4, wordV s5, wordV s6, wordV s7, wordV s8, .slice none 0 0, .int .u64 0]) Z0.out ?h1 ?h2 ?h3 ?h4 ?_; (case h1 => simp); (case h2 => kernel_rfl); (case h3 => simp [Value.oneCell']); (case h4 => simp [putsA]); intro w2 hx2 ho2 hs2; have X2 := Lib.hid hx2; have O2 := Lib.hid ((Only.set g 0 _ w1).trans ho2); clear f0 fr0 hx2 ho2 hs2 _t tok1; have g9 := (X2.out.cell 9).trans rfl; have g10 := (X2.out.cell 10).trans rfl; have h9 := X2.out.frozen 9; have h10 := X2.out.frozen 10)
    | (at_builtin; refine Lib.wpList_append_own_string _ rfl _ _ 172 9 rfl w.heap.size 5 i0 Tryz.underlying172 Tryz.underlying9 hi hz0 hz1 hz2 (.slice none 0 0) 0 [] rfl ⟨rfl, .inl ⟨rfl, rfl⟩⟩ (strOf l) rfl ?c3 ?c4 ?c5 ?_; (case c3 => unfold maxLen; omega); (case c4 => omega); (case c5 => have := B1.out.size; have := O2.out.size; simp; omega); intro v3 w3 hown3 hgrow3 _; rw [Nat.zero_add, sz, List.nil_append, strCells_eq, strOf_data] at hown3; obtain ⟨A, cap, rfl, hcells⟩ := own_read hown3; have CAP := Lib.hid (own_cap hown3); have OFF := Lib.hid (fun a ha => Nat.ne_of_gt (Nat.lt_of_lt_of_le GW.out (own_off hown3 a ha))); have CE := Lib.hid hcells; have X3 := Lib.hid (show isBlk w3 g 325 #[.bool true, wordV s1, wordV s2, wordV s3, wordV s4, wordV s5, wordV s6, wordV s7, wordV s8, .slice none 0 0, .int .u64 (l.length : Int)] from (hgrow3.block g (X2.out.put 10 (.int .u64 (l.length : Int)) rfl).lt (by simp [Value.ownBlock])).trans (X2.out.put 10 (.int .u64 (l.length : Int)) rfl)); have O3 := Lib.hid (only_grown g hgrow3); clear hown3 hgrow3 hcells g9 g10 h9 h10; have i9 := (X3.out.cell 9).trans rfl; have i9' := X3.out.frozen 9))
  have KK := Lib.hid (((K.ext B1.out).only KG.out O2.out).only KG.out ((Only.set g 10 _ _).trans O3.out))
  go_loopw [37] (fun _ wr => ∃ i A cap, 64 * i ≤ l.length ∧ isBlk wr g 325 (sumC (Sp.mixN i Sp.start l) A (l.length - 64 * i) cap l.length) ∧ Cells wr A ((l.drop (64 * i)).map byteV) ∧ (∀ a, A = some a → a.block ≠ g) ∧ (l.length - 64 * i ≤ cap ∧ cap ≤ 9223372036854775807) ∧ Only g w3 wr) (fun _ wr => leftAt wr g)
  case atStart => exact ⟨0, A, cap, by omega, by rw [Sp.mixN, HS.out]; exact X3.out.put 9 _ rfl, Cells.only (by simpa using CE.out) OFF.out (Only.set _ _ _ _), OFF.out, by simpa using CAP.out, Only.set _ _ _ _⟩
  case round =>
    obtain ⟨i, A, cap, hi, hx, hc, hoff, hcap, ho⟩ := hrel
    obtain ⟨c1, c2, c3, c4, c5, c6, c7, c8, hm⟩ := len8 _ (Sp.mixN_len i Sp.start l rfl)
    rw [hm] at hx
    obtain ⟨n, hn⟩ : ∃ n, n = l.length - 64 * i := ⟨_, rfl⟩
    rw [← hn] at hx hcap
    have hx9 : wr.cell? ⟨g, 9, none⟩ = some (.slice A n cap) := (hx.cell 9).trans rfl
    by_cases h64 : 64 ≤ n
    · have hne : (l.drop (64 * i)).map byteV ≠ [] := by intro e; have := congrArg List.length e; simp at this; omega
      obtain ⟨ga, o, rfl, hcl⟩ := hc hne
      have b1 : decide ((64 : Int) ≤ (n : Int)) = true := by rw [decide_eq_true_iff]; omega
      have i64 : (64 : Int) ≤ (n : Int) := by omega
      obtain ⟨blk, hblk⟩ : ∃ blk, blk = (l.drop (64 * i)).take 64 := ⟨_, rfl⟩
      have bl : blk.length = 64 := by rw [hblk, List.length_take, List.length_drop]; omega
      have rng : ∀ W, Ext wr W → W.rangeAt ga o (blk.map byteV) := fun W e j v hj => by
        refine e.cell (hcl j v ?_)
        rw [hblk, List.map_take, List.getElem?_take] at hj
        split at hj
        · exact hj
        · cases hj
      obtain ⟨d1, d2, d3, d4, d5, d6, d7, d8, hd⟩ := len8 (Sp.mix [c1, c2, c3, c4, c5, c6, c7, c8] blk) (Sp.mix_len _ _ rfl)
      have MC := Lib.hid fun W (e : Ext wr W) => mix_calls [c1, c2, c3, c4, c5, c6, c7, c8] blk W rfl bl ((KK.out.only KG.out ho).ext e)
      rw [hd, show wordsC [c1, c2, c3, c4, c5, c6, c7, c8] = #[wordV c1, wordV c2, wordV c3, wordV c4, wordV c5, wordV c6, wordV c7, wordV c8] from rfl, show wordsC [d1, d2, d3, d4, d5, d6, d7, d8] = #[wordV d1, wordV d2, wordV d3, wordV d4, wordV d5, wordV d6, wordV d7, wordV d8] from rfl] at MC
      have HX := Lib.hid (show isBlk wr g 325 #[.bool true, wordV c1, wordV c2, wordV c3, wordV c4, wordV c5, wordV c6, wordV c7, wordV c8, .slice (some ⟨ga, o, none⟩) n cap, .int .u64 (l.length : Int)] from hx)
      have HM := Lib.hid (show Sp.mixN (i + 1) Sp.start l = [d1, d2, d3, d4, d5, d6, d7, d8] by rw [Sp.mixN_snoc, hm, ← hblk, hd])
      have RNG := Lib.hid rng
      have BL := Lib.hid bl
      have HCL := Lib.hid hcl
      have HO := Lib.hid ho
      have HN := Lib.hid hn
      clear hx hm hblk bl rng hcl ho hc hd hn hne
      go_wp2_with fail
      refine wp_region_det_tail (fun W => Ext wr W) 12 (by kernel_rfl) (by kernel_rfl) (Ext.refl _).drew ?_
      simp only [List.take_succ_cons, List.take_zero, List.drop_succ_cons, List.drop_zero]
      repeat (first
        | (refine det_step (fun K hK => ?_); (refine det_load_mid rfl 346 _ rfl ga o rfl (blk.map byteV) _ (fun W hS => RNG.out W hS) Tryz.underlying346 rfl (by rw [List.length_map, BL.out]; kernel_rfl) ?_); go_simp; refine hK _ ?_; clear hK K)
        | (refine det_step (fun K hK => ?_)
           apply Exists.intro
           refine ⟨Or.inl ⟨rfl, fun W hS => ?_⟩, ?_⟩
           · have hz : Ext wr W := hS; have z := HX.out.below hz; have f1 := (z.cell 1).trans rfl; have f2 := (z.cell 2).trans rfl; have f3 := (z.cell 3).trans rfl; have f4 := (z.cell 4).trans rfl; have f5 := (z.cell 5).trans rfl; have f6 := (z.cell 6).trans rfl; have f7 := (z.cell 7).trans rfl; have f8 := (z.cell 8).trans rfl; have f9 := (z.cell 9).trans rfl; have hap := run_arrayAt Tryz.underlying346 ⟨ga, o, none⟩ n cap h64 W
             go_simp
             first
             | exact rfl
             | exact ⟨rfl, hS⟩
             | (refine (MC.out W hz).mono ?_; rintro e w5 ⟨rfl, hb5⟩; exact ⟨rfl, hz.trans hb5⟩)
           go_simp
           refine hK _ ?_
           clear hK K)
        | (refine det_step (fun K hK => ?_); refine det_no' rfl ?_; go_simp; refine hK _ ?_; clear hK K))
      refine det_nil ?_
      intro W hS
      replace hS : Ext wr W := hS
      have HXW := Lib.hid (HX.out.below hS)
      have O4 := Lib.hid (HO.out.trans (Only.of_below g hS))
      have EW := Lib.hid hS
      clear hx9 hS
      by_cases hc64 : cap = 64
      · subst hc64
        obtain rfl : n = 64 := by omega
        go_wp2_with ((with_reducible refine at_store (t := 272) rfl ?_); refine store_blk rfl _ _ _ rfl g 1 #[wordV d1, wordV d2, wordV d3, wordV d4, wordV d5, wordV d6, wordV d7, wordV d8] rfl rfl (cs' := #[.bool true, wordV d1, wordV d2, wordV d3, wordV d4, wordV d5, wordV d6, wordV d7, wordV d8, .slice (some ⟨ga, o, none⟩) 64 64, .int .u64 (l.length : Int)]) HXW.out ?h5 ?h6 ?h7 ?h8 ?_; (case h5 => simp); (case h6 => kernel_rfl); (case h7 => simp [Value.oneCell']); (case h8 => simp [putsA]); intro w6 hx6 ho6 hs6; have X6 := Lib.hid hx6; have O6 := Lib.hid ho6; clear hx6 ho6 hs6; have g9 := (X6.out.cell 9).trans rfl; have h9 := X6.out.frozen 9)
        have e0 : l.length - 64 * (i + 1) = 0 := by have := HN.out; omega
        have hl9 := X6.out.put 9 (.slice (some ⟨ga, o, none⟩) 0 0) rfl
        refine ⟨⟨i + 1, some ⟨ga, o, none⟩, 0, by have := HN.out; omega, by rw [e0, HM.out]; exact hl9, ?_, hoff, by omega, O4.out.trans (O6.out.trans (Only.set _ _ _ _))⟩, ?_⟩
        · rw [List.drop_eq_nil_of_le (by omega)]; exact Cells.nil _ _
        · rw [leftAt_blk hl9 rfl, leftAt_blk HX.out rfl]; decide
      · have hc65 : ¬ 64 = cap := fun e => hc64 e.symm
        go_wp2_with ((with_reducible refine at_store (t := 272) rfl ?_); refine store_blk rfl _ _ _ rfl g 1 #[wordV d1, wordV d2, wordV d3, wordV d4, wordV d5, wordV d6, wordV d7, wordV d8] rfl rfl (cs' := #[.bool true, wordV d1, wordV d2, wordV d3, wordV d4, wordV d5, wordV d6, wordV d7, wordV d8, .slice (some ⟨ga, o, none⟩) n cap, .int .u64 (l.length : Int)]) HXW.out ?h9 ?ha ?hb ?hc ?_; (case h9 => simp); (case ha => kernel_rfl); (case hb => simp [Value.oneCell']); (case hc => simp [putsA]); intro w6 hx6 ho6 hs6; have X6 := Lib.hid hx6; have O6 := Lib.hid ho6; clear hx6 ho6 hs6; have g9 := (X6.out.cell 9).trans rfl; have h9 := X6.out.frozen 9)
        have e0 : l.length - 64 * (i + 1) = n - 64 := by have := HN.out; omega
        have hl9 := X6.out.put 9 (.slice (some ⟨ga, o + 64, none⟩) (n - 64) (cap - 64)) rfl
        have hoff' : ∀ a, some (⟨ga, o + 64, none⟩ : Addr) = some a → a.block ≠ g := by
          rintro a ha
          cases ha
          exact hoff ⟨ga, o, none⟩ rfl
        refine ⟨⟨i + 1, some ⟨ga, o + 64, none⟩, cap - 64, by have := HN.out; omega, by rw [e0, HM.out]; exact hl9, ?_, hoff', by omega, O4.out.trans (O6.out.trans (Only.set _ _ _ _))⟩, ?_⟩
        · have C0 : Cells wr (some ⟨ga, o + 64, none⟩) ((l.drop (64 * (i + 1))).map byteV) := fun _ => ⟨ga, o + 64, rfl, fun j u hj => by
            have := HCL.out (64 + j) u (by rw [← hj, List.getElem?_map, List.getElem?_map, List.getElem?_drop, List.getElem?_drop]; congr 2; omega)
            rwa [← Nat.add_assoc] at this⟩
          exact (C0.ext EW.out).only hoff' (O6.out.trans (Only.set _ _ _ _))
        · rw [leftAt_blk hl9 rfl, leftAt_blk HX.out rfl]; omega
    · have b1 : decide ((64 : Int) ≤ (n : Int)) = false := by rw [decide_eq_false_iff_not]; omega
      have HI := Lib.hid (show i = l.length / 64 by omega)
      have HX := Lib.hid hx
      have HC := Lib.hid hc
      have HN := Lib.hid hn
      clear hx hc hn
      go_wp2_with fail
      go_end0
      refine ⟨rfl, ⟨A, cap, ?_, ?_, ?_, hcap.2⟩, (Only.of_below g B1.out).trans (O2.out.trans ((Only.set g 10 _ _).trans (O3.out.trans ho)))⟩
      · rw [List.length_drop, ← HI.out, ← HN.out, hm]; exact HX.out
      · rw [← HI.out]; exact HC.out
      · rw [List.length_drop, ← HI.out, ← HN.out]; exact hcap.1
end Go.Proofs.YtmlfnidckfeebaaGreatDoor
