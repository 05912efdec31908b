/- Walks: digests as bytes. A part of a block is written, or read, at once. Walks: a block's words. Walks: a block goes in. -/
import Derived.Deep.MidRow
import Derived.Laws.Tables
import Derived.Laws.CopyOwn
import Derived.Test.YtmlfnidckfeebaaGreatDoorP006
namespace Go.Proofs.YtmlfnidckfeebaaGreatDoor
open Go.RowKit Go.Shelf
/-- A digest's cells. -/
def digC (d : Sp.Bs) : Array Value := (d.map byteV).toArray
abbrev digV (d : Sp.Bs) : Value := .agg (digC d)
theorem digC_size (d : Sp.Bs) : (digC d).size = d.length := by simp [digC]
theorem digC_get (d : Sp.Bs) (i : Nat) (h : i < d.length) : (digC d)[i]? = some (byteV d[i]) := by simp [digC, h]
set_option maxRecDepth 100000 in
set_option maxHeartbeats 2000000 in
theorem wdigest_calls (B g : Nat) (x : Sp.W) (d : Sp.Bs) (w : World) (hd : d.length = 32) (h : IsWr B g x w) (hlen : x.1.length ≤ 100000000000000) (hBw : B ≤ w.heap.size) :
    Calls Tryz.prog 289 #[.pointer (some ⟨g, 0, none⟩), digV d] w fun e w' => e = .returned (.tuple #[]) ∧ WTo B g (Sp.wdigest d x) w w' := by
  obtain ⟨W0, hW0⟩ : ∃ W0, W0 = w.alloc (.cells (digC d) 36) := ⟨_, rfl⟩
  have SZ := Lib.hid (show W0.heap.size = w.heap.size + 1 by rw [hW0]; simp)
  have E0 := Lib.hid (show Ext w W0 by rw [hW0]; exact Ext.alloc _ _)
  have CC := Lib.hid (show ∀ i, (h : i < d.length) → W0.cell? ⟨w.heap.size, 0 + i, none⟩ = some (byteV d[i]) from fun i hi => by rw [hW0, Nat.zero_add, (box_at w (digC d) 36).cell i, digC_get d i hi])
  have PU := Lib.hid (wput_calls B g (w.heap.size + 1) x true [strOf d] (W0.alloc (.cells #[.string (strOf d)] 9)) (h.below (E0.out.trans (Ext.alloc _ _))) (by rw [← SZ.out]; exact box_at _ _ _) (by simp; omega) (by have := E0.out.size; simp; omega) (by simp))
  have HW := Lib.hid hW0.symm
  have HB := Lib.hid hBw
  have F := Lib.hid (show Sp.wdigest d x = Sp.wput true (([strOf d] : List ByteArray).flatMap (fun s => s.data.toList)) x by rw [List.flatMap_cons, List.flatMap_nil, List.append_nil, strOf_data]; rfl)
  obtain ⟨x2, hx2⟩ : ∃ x2, x2 = Sp.wput true (([strOf d] : List ByteArray).flatMap (fun s => s.data.toList)) x := ⟨_, rfl⟩
  rw [← hx2] at F PU
  have hds := digC_size d
  clear h hBw hW0 hx2
  go_enter Tryz.func289, Tryz.ntmps289
  go_wp2_with (refine conv_new rfl rfl Tryz.underlying172 Tryz.underlying5 Tryz.underlying9 w.heap.size 0 32 32 d rfl hd.symm ?cc ?_; (case cc => rw [HW.out]; exact CC.out))
  rw [HW.out]
  refine PU.out.mono ?_
  rintro e w1 ⟨rfl, hw1, hb1, hk1, hs1⟩
  go_wp2
  go_end0
  have e1 := E0.out.trans (Ext.alloc W0 (.cells #[.string (strOf d)] 9))
  exact ⟨rfl, by rw [F.out]; exact hw1, (Below.mono e1 HB.out).trans hb1, (Kept.below e1).trans hk1, Nat.le_trans e1.size hs1⟩
end Go.Proofs.YtmlfnidckfeebaaGreatDoor
namespace Go.Proofs.YtmlfnidckfeebaaGreatDoor
open Go.RowKit
/-- Cells, written from a place on. -/
def putsA (cs : Array Value) : Nat → List Value → Array Value
  | _, [] => cs
  | o, v :: r => putsA (cs.setIfInBounds o v) (o + 1) r
theorem isBlk.puts : ∀ (vs : List Value) (o : Nat) {w : World} {g : Nat} {t : TypeId} {cs : Array Value}, isBlk w g t cs → isBlk (w.setCells g o vs) g t (putsA cs o vs)
  | [], _, _, _, _, _, h => h
  | v :: r, o, _, _, _, _, h => isBlk.puts r (o + 1) (h.put o v rfl)
theorem Only.sets (g : Nat) : ∀ (vs : List Value) (o : Nat) (w : World), Only g w (w.setCells g o vs)
  | [], _, w => Only.refl g w
  | v :: r, o, w => (Only.set g o v w).trans (Only.sets g r (o + 1) _)
theorem sets_size (g : Nat) : ∀ (vs : List Value) (o : Nat) (w : World), (w.setCells g o vs).heap.size = w.heap.size
  | [], _, _ => rfl
  | v :: r, o, w => by rw [World.setCells, sets_size g r (o + 1)]; simp
theorem isBlk.rangeAt {w : World} {g : Nat} {t : TypeId} {cs : Array Value} (h : isBlk w g t cs) (o : Nat) (vs : List Value) (hv : ∀ j v, vs[j]? = some v → cs[o + j]? = some v) : w.rangeAt g o vs := fun j v hj => by rw [h.cell (o + j)]; exact hv j v hj
section
variable {P : Program} {ops : Array Oper} {rest : List Oper} {o : Oper} {a : Act} {Q : Exit → Act → World → Prop} {w : World}
theorem at_load {t : TypeId} {x : Operand} (_ho : o.op = .load t x) (h : wpList P ops Q (o :: rest) a w) : wpList P ops Q (o :: rest) a w := h
theorem at_store {t : TypeId} {x y : Operand} (_ho : o.op = .store t x y) (h : wpList P ops Q (o :: rest) a w) : wpList P ops Q (o :: rest) a w := h
theorem store_blk (hgd : o.guard = none) (ty : TypeId) (x y : Operand) (ho : o.op = .store ty x y) (b off : Nat) (cells : Array Value) (hx : a.eval x = .pointer (some ⟨b, off, none⟩)) (hy : a.eval y = .agg cells)
    {t : TypeId} {cs cs' : Array Value} (hb : isBlk w b t cs) (hlt : off + cells.size ≤ cs.size) (hi : (P.info? ty).map (·.size) = some cells.size) (h1 : cells.all (·.oneCell') = true) (hcs : putsA cs off cells.toList = cs')
    (h : ∀ w', isBlk w' b t cs' → Only b w w' → w'.heap.size = w.heap.size → wpList P ops Q rest (a.put o.dst undef) w') : wpList P ops Q (o :: rest) a w := by
  refine wpList_store_mid hgd ty x y ho b off cells hx hy ?_ hi h1 ?_
  · intro j hj
    rw [hb.cell (off + j), hb.frozen (off + j)]
    exact ⟨by rw [Array.getElem?_eq_getElem (by omega)]; rfl, rfl⟩
  · exact h _ (by rw [← hcs]; exact hb.puts _ _) (Only.sets _ _ _ _) (sets_size _ _ _ _)
end
/-- In a region that draws its order: a row that is read as a whole. -/
theorem det_load_mid {P : Program} {ops : Array Oper} {S : World → Prop} {a : Act} {o : Oper} {K : Act → Prop} (hw : Region.wanted o (yielded ops a.tmps) = true) (ty : TypeId) (x : Operand) (ho : o.op = .load ty x) (b off : Nat) (hx : a.eval x = .pointer (some ⟨b, off, none⟩)) (vs : List Value) (d : TypeDesc)
    (hc : ∀ W, S W → W.rangeAt b off vs) (hu : P.underlying ty = some d) (hd : d.isRow = true) (hi : (P.info? ty).map (·.size) = some vs.length) (h : K (a.put o.dst (.agg vs.toArray))) : ∃ v, YieldsS P ops S o v a ∧ K (a.put o.dst v) := by
  refine ⟨_, .inl ⟨hw, fun W hS => ?_⟩, h⟩
  unfold execOp
  simp only [ho, hx, Sem.run_bind, run_loadAt_mid W b off ty vs d (hc W hS) hu hd hi, Result.andThen_ok, Sem.run_pure]
  exact ⟨rfl, hS⟩
end Go.Proofs.YtmlfnidckfeebaaGreatDoor
namespace Go.Proofs.YtmlfnidckfeebaaGreatDoor
open Go.RowKit
attribute [local go_sem] yUpon w_add w_xor w_and w_or w_wrap w_shl8 w_shl16 w_shl24 w_shr3 w_shr10
abbrev zero64 : Array Value := wordsC (List.replicate 64 0)
/-- A byte, as a word. -/
theorem byte_word (b : Sp.Bs) (i : Nat) (h : i < b.length) : ∃ x : UInt32, x = (b.getD i 0).toUInt32 ∧ x.toNat < 256 ∧ (digC b)[i]? = some (.int .u8 (wd x)) := by
  refine ⟨_, rfl, ?_, ?_⟩
  · rw [UInt8.toNat_toUInt32]; exact (b.getD i 0).toNat_lt
  · unfold wd
    rw [digC_get b i h, UInt8.toNat_toUInt32]
    simp [byteV, List.getD_eq_getElem?_getD, h]
theorem first_succ (b : Sp.Bs) (k : Nat) : Sp.first b (k + 1) = Sp.first b k ++ [Sp.be b k] := by
  unfold Sp.first; rw [List.range_succ, List.map_append]; rfl
/-- A list that is written on from its head. -/
theorem set_mid {α} (l : List α) (x y : α) (m : List α) : (l ++ y :: m).set l.length x = l ++ x :: m := by
  rw [List.set_append_right _ _ (Nat.le_refl _)]; simp
theorem fill_step (l : List UInt32) (x : UInt32) (n : Nat) (h : l.length < n) : (l ++ List.replicate (n - l.length) 0).set l.length x = (l ++ [x]) ++ List.replicate (n - (l ++ [x]).length) 0 := by
  obtain ⟨m, hm⟩ : ∃ m, n - l.length = m + 1 := ⟨n - l.length - 1, by omega⟩
  rw [hm, List.replicate_succ, set_mid, List.append_assoc, List.length_append]
  congr 2
  rw [show n - (l.length + [x].length) = m by simp; omega]
  rfl
set_option maxRecDepth 100000 in
set_option maxHeartbeats 4000000 in
theorem spread_calls (b : Sp.Bs) (w : World) (hb : b.length = 64) : Calls Tryz.prog 322 #[.agg (digC b)] w fun e w' => e = .returned (.agg (wordsC (Sp.sched b 48))) ∧ Ext w w' := by
  have hds := digC_size b
  obtain ⟨arr, ha⟩ : ∃ arr, arr = wordsC (Sp.sched b 48) := ⟨_, rfl⟩
  rw [← ha]
  have HA := Lib.hid ha
  clear ha
  have tok2 : True := trivial
  have tok3 : True := trivial
  go_enter Tryz.func322, Tryz.ntmps322
  go_wp2_with (first
    | (have _t2 := tok2; ((with_reducible refine at_alloc (t := 274) rfl ?_); refine box_new rfl (cs := zero64) (t := 274) (by first | (go_simp; done) | (go_simp; rfl)) ?_; intro g2 w2 hg2 hx2 hb2; clear tok2 _t2))
    | (have _t3 := tok3; ((with_reducible refine at_alloc (t := 274) rfl ?_); refine box_new rfl (cs := zero64) (t := 274) (by first | (go_simp; done) | (go_simp; rfl)) ?_; intro g3 w3 hg3 hx3 hb3; clear tok3 _t3)))
  have E3 := Lib.hid ((Ext.alloc w (.cells (digC b) 346)).trans (Ext.trans hb2 hb3))
  have X1 := Lib.hid ((box_at w (digC b) 346).below (Ext.trans hb2 hb3))
  have X2 := Lib.hid (hx2.below hb3)
  have N12 := Lib.hid (show w.heap.size ≠ g3 by have := (Ext.alloc w (.cells (digC b) 346)).size; have := hb2.size; simp at *; omega)
  have N23 := Lib.hid (show g2 ≠ g3 by have := hx2.lt; omega)
  have G3 := Lib.hid (show w.heap.size ≤ g3 by have := hb2.size; simp at *; omega)
  have G2 := Lib.hid (show w.heap.size ≤ g2 by simp at hg2; omega)
  have X3 := Lib.hid hx3
  clear hx2 hx3 hb2 hb3 hg2 hg3
  go_loopw [10] (fun v10 wr => ∃ k : Nat, k ≤ 16 ∧ v10 = .int .i64 k ∧ isBlk wr g3 274 (wordsC (Sp.first b k ++ List.replicate (64 - k) 0)) ∧ Only g3 w3 wr) (fun v10 _ => 16 - (intOf v10).toNat)
  case atStart => exact ⟨0, by decide, rfl, by rw [show Sp.first b 0 = [] from rfl]; exact X3.out, Only.refl _ _⟩
  case round =>
    obtain ⟨k, hk, rfl, hx, ho⟩ := hrel
    by_cases hlt : k < 16
    · obtain ⟨m, hm⟩ : ∃ m, m = 4 * k := ⟨_, rfl⟩
      obtain ⟨m1, hm1⟩ : ∃ m1, m1 = m + 1 := ⟨_, rfl⟩
      obtain ⟨m2, hm2⟩ : ∃ m2, m2 = m + 2 := ⟨_, rfl⟩
      obtain ⟨m3, hm3⟩ : ∃ m3, m3 = m + 3 := ⟨_, rfl⟩
      have e1 : 4 * (k : Int) = (m : Int) := by omega
      have q0 : IntKind.i64.wrap (m : Int) = (m : Int) := IntWalk.i64_in _ (by omega)
      have q1 : IntKind.i64.wrap ((m : Int) + 1) = (m1 : Int) := by rw [hm1]; exact IntWalk.i64_in _ (by omega)
      have q2 : IntKind.i64.wrap ((m : Int) + 2) = (m2 : Int) := by rw [hm2]; exact IntWalk.i64_in _ (by omega)
      have q3 : IntKind.i64.wrap ((m : Int) + 3) = (m3 : Int) := by rw [hm3]; exact IntWalk.i64_in _ (by omega)
      obtain ⟨x0, h0, l0, c0⟩ := byte_word b m (by omega)
      obtain ⟨x1, h1, l1, c1⟩ := byte_word b m1 (by omega)
      obtain ⟨x2, h2, l2, c2⟩ := byte_word b m2 (by omega)
      obtain ⟨x3, h3, l3, c3⟩ := byte_word b m3 (by omega)
      have hbe : Sp.be b k = x0 <<< 24 ||| x1 <<< 16 ||| x2 <<< 8 ||| x3 := by rw [h0, h1, h2, h3, hm1, hm2, hm3, hm]; rfl
      have b0 : (m : Int) < 64 := by omega
      have b1 : (m1 : Int) < 64 := by omega
      have b2 : (m2 : Int) < 64 := by omega
      have b3 : (m3 : Int) < 64 := by omega
      have Z := ho.blk X1.out N12.out
      clear h0 h1 h2 h3 hm1 hm2 hm3 hm
      go_wp2_with fail
      refine wp_region_det_tail (fun W => Ext wr W) 30 (by kernel_rfl) (by kernel_rfl) (Ext.refl _).drew ?_
      simp only [List.take_succ_cons, List.take_zero, List.drop_succ_cons, List.drop_zero]
      repeat (first
        | (refine det_step (fun K hK => ?_)
           apply Exists.intro
           refine ⟨Or.inl ⟨rfl, fun W hS => ?_⟩, ?_⟩
           · have hz : Ext wr W := hS; have z := Z.below hz; have f0 := (z.cell m).trans c0; have f1 := (z.cell m1).trans c1; have f2 := (z.cell m2).trans c2; have f3 := (z.cell m3).trans c3
             go_simp
             first
             | exact rfl
             | exact ⟨rfl, hS⟩
             | (fail)
           go_simp
           refine hK _ ?_
           clear hK K)
        | (refine det_step (fun K hK => ?_); refine det_no' rfl ?_; go_simp; refine hK _ ?_; clear hK K))
      refine det_nil ?_
      intro W hS
      replace hS : Ext wr W := hS
      have ln := Sp.first_len b k
      have hxW := hx.below hS
      have g0 := (hxW.cell k).trans (wordsC_get _ k (by rw [List.length_append, List.length_replicate, ln]; omega))
      have g1 := hxW.frozen k
      have HX := Lib.hid hxW
      have HO := Lib.hid (ho.trans (Only.of_below g3 hS))
      clear hx hxW ho Z ln
      go_wp2_with fail
      go_roundw
      case rel =>
        refine ⟨k + 1, by omega, by go_num, ?_, HO.out.trans (Only.set _ _ _ _)⟩
        have := HX.out.put k (wordV (x0 <<< 24 ||| x1 <<< 16 ||| x2 <<< 8 ||| x3)) rfl
        rw [wordsC_set] at this
        have fs := fill_step (Sp.first b k) (Sp.be b k) 64 (by rw [Sp.first_len]; omega)
        rw [Sp.first_len, ← first_succ, Sp.first_len, hbe] at fs
        rw [fs] at this
        exact this
      case measure => simp [intOf]; omega
    · obtain rfl : k = 16 := by omega
      rw [show ((16 : Nat) : Int) = 16 from rfl]
      go_wp2_with fail
      go_loopw [5] (fun v5 wr => ∃ n : Nat, n ≤ 48 ∧ v5 = .int .i64 ((16 + n : Nat) : Int) ∧ isBlk wr g3 274 (wordsC (Sp.sched b n ++ List.replicate (48 - n) 0)) ∧ Only g3 w3 wr) (fun v5 _ => 64 - (intOf v5).toNat)
      case atStart => exact ⟨0, by decide, rfl, hx, ho⟩
      case round =>
        obtain ⟨n, hn, rfl, hx, ho⟩ := hrel
        by_cases hlt : n < 48
        · have ln := Sp.sched_len b n
          obtain ⟨i, hi⟩ : ∃ i, i = 16 + n := ⟨_, rfl⟩
          obtain ⟨j16, h16⟩ : ∃ j, j = i - 16 := ⟨_, rfl⟩
          obtain ⟨j15, h15⟩ : ∃ j, j = i - 15 := ⟨_, rfl⟩
          obtain ⟨j7, h7⟩ : ∃ j, j = i - 7 := ⟨_, rfl⟩
          obtain ⟨j2, h2⟩ : ∃ j, j = i - 2 := ⟨_, rfl⟩
          have q16 : IntKind.i64.wrap ((i : Int) - 16) = (j16 : Int) := by rw [IntWalk.i64_in _ (by omega)]; omega
          have q15 : IntKind.i64.wrap ((i : Int) - 15) = (j15 : Int) := by rw [IntWalk.i64_in _ (by omega)]; omega
          have q7 : IntKind.i64.wrap ((i : Int) - 7) = (j7 : Int) := by rw [IntWalk.i64_in _ (by omega)]; omega
          have q2 : IntKind.i64.wrap ((i : Int) - 2) = (j2 : Int) := by rw [IntWalk.i64_in _ (by omega)]; omega
          have cellAt : ∀ j, j < i → (wordsC (Sp.sched b n ++ List.replicate (48 - n) 0))[j]? = some (wordV ((Sp.sched b n).getD j 0)) := fun j hj => by
            rw [wordsC_get _ j (by rw [List.length_append, List.length_replicate, ln]; omega), List.getD_eq_getElem?_getD, List.getElem?_append_left (by rw [ln]; omega), List.getD_eq_getElem?_getD]
          have k16 := cellAt j16 (by omega)
          have k15 := cellAt j15 (by omega)
          have k7 := cellAt j7 (by omega)
          have k2 := cellAt j2 (by omega)
          have nx : Sp.next (Sp.sched b n) = (Sp.sched b n).getD j16 0 + Sp.lowS ((Sp.sched b n).getD j15 0) + (Sp.sched b n).getD j7 0 + Sp.highS ((Sp.sched b n).getD j2 0) := by
            unfold Sp.next; rw [ln, h16, h15, h7, h2, hi]
          obtain ⟨x16, y16⟩ : ∃ x, x = (Sp.sched b n).getD j16 0 := ⟨_, rfl⟩
          obtain ⟨x15, y15⟩ : ∃ x, x = (Sp.sched b n).getD j15 0 := ⟨_, rfl⟩
          obtain ⟨x7, y7⟩ : ∃ x, x = (Sp.sched b n).getD j7 0 := ⟨_, rfl⟩
          obtain ⟨x2, y2⟩ : ∃ x, x = (Sp.sched b n).getD j2 0 := ⟨_, rfl⟩
          rw [← y16] at k16 nx
          rw [← y15] at k15 nx
          rw [← y7] at k7 nx
          rw [← y2] at k2 nx
          have b0 : (i : Int) < 64 := by omega
          have b16 : (j16 : Int) < 64 := by omega
          have b15 : (j15 : Int) < 64 := by omega
          have b7 : (j7 : Int) < 64 := by omega
          have b2 : (j2 : Int) < 64 := by omega
          have HI := Lib.hid hi
          have NX := Lib.hid nx
          rw [← hi]
          clear h16 h15 h7 h2 y16 y15 y7 y2 cellAt hi nx ln
          go_wp2_with fail
          refine wp_region_det (fun W => Ext wr W) (by kernel_rfl) (by kernel_rfl) (Below.refl _ _).drew ?_
          repeat (first
            | (refine det_step (fun K hK => ?_)
               apply Exists.intro
               refine ⟨Or.inl ⟨rfl, fun W hS => ?_⟩, ?_⟩
               · replace hS : Ext wr W := hS
                 have z := hx.below hS; have f0 := (z.cell j15).trans k15; have f1 := (z.cell j2).trans k2
                 go_simp
                 first
                 | exact rfl
                 | exact ⟨rfl, hS⟩
                 | (fail)
               go_simp
               refine hK _ ?_
               clear hK K)
            | (refine det_step (fun K hK => ?_); refine det_no' rfl ?_; go_simp; refine hK _ ?_; clear hK K))
          refine det_nil ?_
          intro W9 hS
          replace hS : Ext _ W9 := hS
          go_wp2_with (go_at_call 323; refine (turned_calls _ _ _ (by decide)).mono ?_; rintro e w4 ⟨rfl, rfl⟩)
          have o1 : Ext wr W9 := hS
          refine wp_region_det_tail (fun W => Ext wr W) 14 (by kernel_rfl) (by kernel_rfl) o1.drew ?_
          simp only [List.take_succ_cons, List.take_zero, List.drop_succ_cons, List.drop_zero]
          repeat (first
            | (refine det_step (fun K hK => ?_)
               apply Exists.intro
               refine ⟨Or.inl ⟨rfl, fun W hS => ?_⟩, ?_⟩
               · have hz : Ext wr W := hS; have z := hx.below hz; have f0 := (z.cell j16).trans k16; have f1 := (z.cell j7).trans k7
                 go_simp
                 first
                 | exact rfl
                 | exact ⟨rfl, hS⟩
                 | (fail)
               go_simp
               refine hK _ ?_
               clear hK K)
            | (refine det_step (fun K hK => ?_); refine det_no' rfl ?_; go_simp; refine hK _ ?_; clear hK K))
          refine det_nil ?_
          intro W hS
          replace hS : Ext wr W := hS
          have ln := Sp.sched_len b n
          have hxW := hx.below hS
          have g0 := (hxW.cell i).trans (wordsC_get _ i (by rw [List.length_append, List.length_replicate, ln, HI.out]; omega))
          have g1 := hxW.frozen i
          have HX := Lib.hid hxW
          have HO := Lib.hid (ho.trans (Only.of_below g3 hS))
          clear hx hxW ho ln k16 k15 k7 k2 o1
          go_wp2_with fail
          go_roundw
          case rel =>
            refine ⟨n + 1, by omega, by rw [HI.out]; go_num, ?_, HO.out.trans (Only.set _ _ _ _)⟩
            have := HX.out.put i (wordV (x16 + (Sp.rotr x15 7 ^^^ Sp.rotr x15 18 ^^^ x15 >>> 3) + x7 + (Sp.rotr x2 17 ^^^ Sp.rotr x2 19 ^^^ x2 >>> 10))) rfl
            rw [wordsC_set] at this
            have fs := fill_step (Sp.sched b n) (Sp.next (Sp.sched b n)) 64 (by rw [Sp.sched_len]; omega)
            rw [show Sp.sched b n ++ [Sp.next (Sp.sched b n)] = Sp.sched b (n + 1) from rfl, Sp.sched_len, Sp.sched_len, ← HI.out, show 64 - i = 48 - n by rw [HI.out]; omega, show 64 - (16 + (n + 1)) = 48 - (n + 1) by omega, NX.out] at fs
            unfold Sp.lowS Sp.highS at fs
            rw [fs] at this
            exact this
          case measure => simp [intOf]; omega
        · obtain rfl : n = 48 := by omega
          have hx' : isBlk wr g3 274 (wordsC (Sp.sched b 48)) := by simpa using hx
          have ws := wordsC_size (Sp.sched b 48)
          have sl := Sp.sched_len b 48
          have w1 := wordsC_one (Sp.sched b 48)
          have HX := Lib.hid hx'
          have H2 := Lib.hid (ho.blk X2.out N23.out)
          have HO := Lib.hid ho
          rw [← HA.out] at HX ws w1
          clear hx hx' ho
          go_wp2_with (first
            | ((with_reducible refine at_load (t := 274) rfl ?_); refine wpList_load_row rfl _ _ rfl g3 rfl 274 arr (0, 0) _ HX.out Tryz.underlying274 rfl (by rw [ws, sl]; kernel_rfl) ?_)
            | ((with_reducible refine at_store (t := 274) rfl ?_); refine wpList_store_row rfl _ _ _ rfl g2 arr rfl rfl 274 zero64 H2.out (by rw [ws, sl]; kernel_rfl) (by rw [ws, sl]; rfl) w1 ?_))
          refine bodyPost_ret (results_cell_row rfl _ _ g2 274 arr (0, 0) _ rfl (setRow_heap _ _ _ _ _ _ H2.out) Tryz.underlying274 rfl (by rw [ws, sl]; kernel_rfl)) rfl ?_
          exact ⟨rfl, below_setRow (E3.out.from' (HO.out.below G3.out E3.out.size)) G2.out _⟩
end Go.Proofs.YtmlfnidckfeebaaGreatDoor
namespace Go.Proofs.YtmlfnidckfeebaaGreatDoor
open Go.RowKit
attribute [local go_sem] yUpon w_add w_xor w_and w_or w_wrap w_shl8 w_shl16 w_shl24 w_shr3 w_shr10
/-- The rounds' numbers lie where they were laid. -/
def KeysAt (w : World) (g : Nat) : Prop := ∀ i, i < 64 → w.cell? ⟨g, i, none⟩ = some (wordV (Sp.keys.getD i 0))
theorem KeysAt.ext {w w' : World} {g : Nat} (h : KeysAt w g) (e : Ext w w') : KeysAt w' g := fun i hi => e.cell (h i hi)
theorem len8 (l : List UInt32) (h : l.length = 8) : ∃ a b c d e f g x, l = [a, b, c, d, e, f, g, x] := by
  match l, h with
  | [a, b, c, d, e, f, g, x], _ => exact ⟨a, b, c, d, e, f, g, x, rfl⟩
/-- The number's complement, as the walk tells it. -/
theorem w_not' (x : UInt32) : bits .xor .u32 IntKind.u32.max (wd x) = wd (~~~x) := by
  have e : IntKind.u32.max = wd (4294967295 : UInt32) := rfl
  rw [e, w_xor]
  congr 1
attribute [local go_sem] w_not'
theorem Only.setRow (g : Nat) (cs : Array Value) (w : World) : Only g w (w.setRow g cs) := ⟨rfl, rfl, rfl, by simp [World.setRow], fun k _ hn => setRow_other _ _ _ _ hn⟩
theorem zip_step (L H : List UInt32) (k n : Nat) (hL : L.length = n) (hH : H.length = n) (hk : k < n) :
    ((List.zipWith (· + ·) L H).take k ++ L.drop k).set k (L.getD k 0 + H.getD k 0) = (List.zipWith (· + ·) L H).take (k + 1) ++ L.drop (k + 1) := by
  have hz : (List.zipWith (· + ·) L H).length = n := by rw [List.length_zipWith, hL, hH]; omega
  have ht : ((List.zipWith (· + ·) L H).take k).length = k := by rw [List.length_take, hz]; omega
  rw [List.drop_eq_getElem_cons (by omega)]
  have := set_mid ((List.zipWith (· + ·) L H).take k) (L.getD k 0 + H.getD k 0) (L[k]'(by omega)) (L.drop (k + 1))
  rw [ht] at this
  rw [this, List.take_succ_eq_append_getElem (by omega), List.append_assoc]
  simp [List.getD_eq_getElem?_getD, List.getElem?_eq_getElem (show k < L.length by omega), List.getElem?_eq_getElem (show k < H.length by omega)]
theorem zip_get (L H : List UInt32) (k n : Nat) (hL : L.length = n) (hH : H.length = n) (hk : k < n) :
    ((List.zipWith (· + ·) L H).take k ++ L.drop k).getD k 0 = L.getD k 0 := by
  have hz : (List.zipWith (· + ·) L H).length = n := by rw [List.length_zipWith, hL, hH]; omega
  have ht : ((List.zipWith (· + ·) L H).take k).length = k := by rw [List.length_take, hz]; omega
  rw [List.getD_eq_getElem?_getD, List.getElem?_append_right (by omega), ht, Nat.sub_self, List.getElem?_drop, List.getD_eq_getElem?_getD]
  rfl
theorem index_words (l : List UInt32) (k : Nat) (hl : l.length = 64) (hk : k < 64) (w : World) : (Instr.index 274 (.agg (wordsC l)) (.int .i64 k)).run Tryz.prog w = .ok (wordV (l.getD k 0)) w := by
  have hg := wordsC_get l k (by omega)
  have hs := Tryz.sizeOf244
  simp [Instr.index, run_underlying Tryz.underlying274, asIntOf, hk, part, hg]
set_option maxRecDepth 100000 in
set_option maxHeartbeats 8000000 in
theorem mix_calls (h : List UInt32) (b : Sp.Bs) (w : World) (hh : h.length = 8) (hb : b.length = 64) (K : KeysAt w 2) :
    Calls Tryz.prog 314 #[.agg (wordsC h), .agg (digC b)] w fun e w' => e = .returned (.agg (wordsC (Sp.mix h b))) ∧ Ext w w' := by
  have hds := digC_size b
  obtain ⟨arr, ha⟩ : ∃ arr, arr = wordsC (Sp.mix h b) := ⟨_, rfl⟩
  rw [← ha]
  have HA := Lib.hid ha
  clear ha
  obtain ⟨a1, a2, a3, a4, a5, a6, a7, a8, rfl⟩ := len8 h hh
  rw [show wordsC [a1, a2, a3, a4, a5, a6, a7, a8] = #[wordV a1, wordV a2, wordV a3, wordV a4, wordV a5, wordV a6, wordV a7, wordV a8] from rfl]
  obtain ⟨W4, hW4⟩ : ∃ W4, W4 = (((w.alloc (.cells #[wordV a1, wordV a2, wordV a3, wordV a4, wordV a5, wordV a6, wordV a7, wordV a8] 272)).alloc (.cells (digC b) 346)).alloc (.cells #[.int .u32 0, .int .u32 0, .int .u32 0, .int .u32 0, .int .u32 0, .int .u32 0, .int .u32 0, .int .u32 0] 272)).alloc (.cells #[wordV a1, wordV a2, wordV a3, wordV a4, wordV a5, wordV a6, wordV a7, wordV a8] 272) := ⟨_, rfl⟩
  have E4 := Lib.hid (show Ext w W4 by rw [hW4]; exact (((Ext.alloc _ _).trans (Ext.alloc _ _)).trans (Ext.alloc _ _)).trans (Ext.alloc _ _))
  have SZ := Lib.hid (show W4.heap.size = w.heap.size + 4 by rw [hW4]; simp)
  have X1 := Lib.hid (show isBlk W4 w.heap.size 272 #[wordV a1, wordV a2, wordV a3, wordV a4, wordV a5, wordV a6, wordV a7, wordV a8] by
    rw [hW4]; exact (box_at w _ _).below (((Ext.alloc _ _).trans (Ext.alloc _ _)).trans (Ext.alloc _ _)))
  have X2 := Lib.hid (show isBlk W4 (w.heap.size + 1) 346 (digC b) by
    rw [hW4]
    have := box_at (w.alloc (.cells #[wordV a1, wordV a2, wordV a3, wordV a4, wordV a5, wordV a6, wordV a7, wordV a8] 272)) (digC b) 346
    rw [World.size_alloc] at this
    exact this.below ((Ext.alloc _ _).trans (Ext.alloc _ _)))
  have X3 := Lib.hid (show isBlk W4 (w.heap.size + 1 + 1) 272 #[.int .u32 0, .int .u32 0, .int .u32 0, .int .u32 0, .int .u32 0, .int .u32 0, .int .u32 0, .int .u32 0] by
    rw [hW4]
    have := box_at ((w.alloc (.cells #[wordV a1, wordV a2, wordV a3, wordV a4, wordV a5, wordV a6, wordV a7, wordV a8] 272)).alloc (.cells (digC b) 346)) #[.int .u32 0, .int .u32 0, .int .u32 0, .int .u32 0, .int .u32 0, .int .u32 0, .int .u32 0, .int .u32 0] 272
    rw [World.size_alloc, World.size_alloc] at this
    exact this.below (Ext.alloc _ _))
  have X4 := Lib.hid (show isBlk W4 (w.heap.size + 1 + 1 + 1) 272 #[wordV a1, wordV a2, wordV a3, wordV a4, wordV a5, wordV a6, wordV a7, wordV a8] by
    rw [hW4]
    have := box_at (((w.alloc (.cells #[wordV a1, wordV a2, wordV a3, wordV a4, wordV a5, wordV a6, wordV a7, wordV a8] 272)).alloc (.cells (digC b) 346)).alloc (.cells #[.int .u32 0, .int .u32 0, .int .u32 0, .int .u32 0, .int .u32 0, .int .u32 0, .int .u32 0, .int .u32 0] 272)) #[wordV a1, wordV a2, wordV a3, wordV a4, wordV a5, wordV a6, wordV a7, wordV a8] 272
    rwa [World.size_alloc, World.size_alloc, World.size_alloc] at this)
  have HW := Lib.hid hW4.symm
  clear hW4
  have SP := Lib.hid (spread_calls b W4 hb)
  have sl := Sp.sched_len b 48
  obtain ⟨S, hS⟩ : ∃ S, S = Sp.sched b 48 := ⟨_, rfl⟩
  rw [← hS] at SP sl
  have HS := Lib.hid hS
  have SL := Lib.hid (show S.length = 64 from sl)
  have NN := Lib.hid (show w.heap.size ≠ w.heap.size + 1 + 1 + 1 ∧ w.heap.size + 1 + 1 ≠ w.heap.size + 1 + 1 + 1 by omega)
  clear hS sl
  go_enter Tryz.func314, Tryz.ntmps314
  go_wp2_with ((with_reducible refine at_load (t := 346) rfl ?_); rw [HW.out]; refine wpList_load_row rfl _ _ rfl (w.heap.size + 1) rfl 346 (digC b) (0, 0) _ X2.out Tryz.underlying346 rfl (by rw [hds, hb]; kernel_rfl) ?_)
  refine SP.out.mono ?_
  rintro e w5 ⟨rfl, hb5⟩
  go_wp2_with fail
  obtain ⟨g5, hg5⟩ : ∃ g5, g5 = w.heap.size + 1 + 1 + 1 := ⟨_, rfl⟩
  rw [← hg5] at X4 NN ⊢
  have K5 := Lib.hid (K.ext (E4.out.trans hb5))
  have E5 := Lib.hid (E4.out.trans hb5)
  have Y1 := Lib.hid (X1.out.below hb5)
  have Y3 := Lib.hid (X3.out.below hb5)
  have Y4 := Lib.hid (X4.out.below hb5)
  have G5 := Lib.hid (show w.heap.size ≤ g5 by omega)
  have HL8 := Lib.hid (show ([a1, a2, a3, a4, a5, a6, a7, a8] : List UInt32).length = 8 from rfl)
  clear hb5 hg5 X1 X2 X3 X4
  go_loopw [16] (fun v16 wr => ∃ k : Nat, k ≤ 64 ∧ v16 = .int .i64 k ∧ isBlk wr g5 272 (wordsC (Sp.rnds S [a1, a2, a3, a4, a5, a6, a7, a8] k)) ∧ Only g5 w5 wr) (fun v16 _ => 64 - (intOf v16).toNat)
  case atStart => exact ⟨0, by decide, rfl, Y4.out, Only.refl _ _⟩
  case round =>
    obtain ⟨k, hk, rfl, hx, ho⟩ := hrel
    by_cases hlt : k < 64
    · obtain ⟨c1, c2, c3, c4, c5, c6, c7, c8, hl⟩ := len8 _ (Sp.rnds_len S [a1, a2, a3, a4, a5, a6, a7, a8] k HL8.out)
      have ST := Sp.rnds_succ S [a1, a2, a3, a4, a5, a6, a7, a8] k SL.out hlt
      rw [hl] at hx ST
      replace hx : isBlk wr g5 272 #[wordV c1, wordV c2, wordV c3, wordV c4, wordV c5, wordV c6, wordV c7, wordV c8] := hx
      have hidx := index_words S k SL.out hlt
      have ck := (E5.out.from' (ho.below G5.out E5.out.size))
      have kc := K.ext ck k hlt
      obtain ⟨y, hy⟩ : ∃ y, y = S.getD k 0 := ⟨_, rfl⟩
      obtain ⟨kk, hkk⟩ : ∃ kk, kk = Sp.keys.getD k 0 := ⟨_, rfl⟩
      rw [← hy] at hidx ST
      rw [← hkk] at kc ST
      have ST' := Lib.hid ST
      have HX := Lib.hid hx
      have HO := Lib.hid ho
      have KC := Lib.hid kc
      clear hl ST hx ho ck kc hy hkk
      go_wp2_with fail
      refine wp_region_det (fun W => Ext wr W) (by kernel_rfl) (by kernel_rfl) (Below.refl _ _).drew ?_
      repeat (first
        | (refine det_step (fun K hK => ?_)
           apply Exists.intro
           refine ⟨Or.inl ⟨rfl, fun W hS => ?_⟩, ?_⟩
           · replace hS : Ext wr W := hS
             have z := HX.out.below hS; have f0 := (z.cell 0).trans rfl; have f4 := (z.cell 4).trans rfl
             go_simp
             first
             | exact rfl
             | exact ⟨rfl, hS⟩
             | (fail)
           go_simp
           refine hK _ ?_
           clear hK K)
        | (refine det_step (fun K hK => ?_); refine det_no' rfl ?_; go_simp; refine hK _ ?_; clear hK K))
      refine det_nil ?_
      intro W9 hS
      replace hS : Ext _ W9 := hS
      have O1 := Lib.hid hS
      clear hS hidx
      go_wp2_with fail
      refine wp_region_det (fun W => Ext W9 W) (by kernel_rfl) (by kernel_rfl) (Below.refl _ _).drew ?_
      repeat (first
        | (refine det_step (fun K hK => ?_)
           apply Exists.intro
           refine ⟨Or.inl ⟨rfl, fun W hS => ?_⟩, ?_⟩
           · replace hS : Ext W9 W := hS
             have z := HX.out.below (O1.out.trans hS); have f7 := (z.cell 7).trans rfl; have f5 := (z.cell 5).trans rfl; have f6 := (z.cell 6).trans rfl; have fk := (O1.out.trans hS).cell KC.out
             go_simp
             first
             | exact rfl
             | exact ⟨rfl, hS⟩
             | (refine (turned_calls _ _ W (by decide)).mono ?_; rintro e w1 ⟨rfl, rfl⟩; exact ⟨rfl, hS⟩)
           go_simp
           refine hK _ ?_
           clear hK K)
        | (refine det_step (fun K hK => ?_); refine det_no' rfl ?_; go_simp; refine hK _ ?_; clear hK K))
      refine det_nil ?_
      intro W9 hS
      replace hS : Ext _ W9 := hS
      have O2 := Lib.hid (O1.out.trans hS)
      clear hS O1
      go_wp2_with fail
      refine wp_region_det (fun W => Ext W9 W) (by kernel_rfl) (by kernel_rfl) (Below.refl _ _).drew ?_
      repeat (first
        | (refine det_step (fun K hK => ?_)
           apply Exists.intro
           refine ⟨Or.inl ⟨rfl, fun W hS => ?_⟩, ?_⟩
           · replace hS : Ext W9 W := hS
             have z := HX.out.below (O2.out.trans hS); have f1 := (z.cell 1).trans rfl; have f2 := (z.cell 2).trans rfl
             go_simp
             first
             | exact rfl
             | exact ⟨rfl, hS⟩
             | (refine (turned_calls _ _ W (by decide)).mono ?_; rintro e w1 ⟨rfl, rfl⟩; exact ⟨rfl, hS⟩)
           go_simp
           refine hK _ ?_
           clear hK K)
        | (refine det_step (fun K hK => ?_); refine det_no' rfl ?_; go_simp; refine hK _ ?_; clear hK K))
      refine det_nil ?_
      intro W9 hS
      replace hS : Ext _ W9 := hS
      have O3 := Lib.hid (O2.out.trans hS)
      have z := HX.out.below O3.out
      have f0 := (z.cell 0).trans rfl
      have f1 := (z.cell 1).trans rfl
      have f2 := (z.cell 2).trans rfl
      have f3 := (z.cell 3).trans rfl
      have f4 := (z.cell 4).trans rfl
      have f5 := (z.cell 5).trans rfl
      have f6 := (z.cell 6).trans rfl
      have Z := Lib.hid z
      clear hS O2 z
      go_wp2_with ((with_reducible refine at_store (t := 272) rfl ?_); refine wpList_store_row rfl _ _ _ rfl g5 _ rfl rfl 272 _ Z.out (by kernel_rfl) rfl (by simp [Value.oneCell']) ?_)
      go_roundw
      case rel =>
        refine ⟨k + 1, by omega, by go_num, ?_, HO.out.trans ((Only.of_below g5 O3.out).trans (Only.setRow _ _ _))⟩
        rw [ST'.out]
        exact setRow_heap _ _ _ _ _ _ Z.out
      case measure => simp [intOf]; omega
    · obtain rfl : k = 64 := by omega
      rw [show ((64 : Nat) : Int) = 64 from rfl]
      have LL := Sp.rnds_len S [a1, a2, a3, a4, a5, a6, a7, a8] 64 HL8.out
      obtain ⟨L, hL⟩ : ∃ L, L = Sp.rnds S [a1, a2, a3, a4, a5, a6, a7, a8] 64 := ⟨_, rfl⟩
      rw [← hL] at hx LL
      obtain ⟨H, hH⟩ : ∃ H : List UInt32, H = [a1, a2, a3, a4, a5, a6, a7, a8] := ⟨_, rfl⟩
      have MX := Lib.hid (show arr = wordsC (List.zipWith (· + ·) L H) by rw [HA.out, hL, hH, HS.out]; rfl)
      have HH8 := Lib.hid (show H.length = 8 by rw [hH]; rfl)
      have Y1' := Lib.hid (show isBlk w5 w.heap.size 272 (wordsC H) by rw [hH]; exact Y1.out)
      have HLL := Lib.hid LL
      have HX0 := Lib.hid hx
      have HO0 := Lib.hid ho
      clear hL hH LL hx ho
      go_wp2_with fail
      go_loopw [97] (fun v97 wr => ∃ k : Nat, k ≤ 8 ∧ v97 = .int .i64 k ∧ isBlk wr g5 272 (wordsC ((List.zipWith (· + ·) L H).take k ++ L.drop k)) ∧ Only g5 w5 wr) (fun v97 _ => 8 - (intOf v97).toNat)
      case atStart => exact ⟨0, by decide, rfl, HX0.out, HO0.out⟩
      case round =>
        obtain ⟨k, hk, rfl, hx, ho⟩ := hrel
        by_cases hlt : k < 8
        · have z1 := zip_step L H k 8 HLL.out HH8.out hlt
          have z2 := zip_get L H k 8 HLL.out HH8.out hlt
          have zl : ((List.zipWith (· + ·) L H).take k ++ L.drop k).length = 8 := by have := HLL.out; have := HH8.out; simp; omega
          have k1 := wordsC_get ((List.zipWith (· + ·) L H).take k ++ L.drop k) k (by omega)
          have k2 := wordsC_get H k (by rw [HH8.out]; exact hlt)
          rw [z2] at k1
          obtain ⟨x, hxx⟩ : ∃ x, x = L.getD k 0 := ⟨_, rfl⟩
          obtain ⟨y, hyy⟩ : ∃ y, y = H.getD k 0 := ⟨_, rfl⟩
          rw [← hxx] at k1 z1
          rw [← hyy] at k2 z1
          have HX := Lib.hid hx
          have HO := Lib.hid ho
          have YW := Lib.hid (ho.blk Y1'.out NN.out.1)
          have Z1 := Lib.hid z1
          have K1 := Lib.hid k1
          have K2 := Lib.hid k2
          clear hx ho hxx hyy z1 z2 zl k1 k2
          go_wp2_with fail
          refine wp_region_det_tail (fun W => Ext wr W) 7 (by kernel_rfl) (by kernel_rfl) (Ext.refl _).drew ?_
          simp only [List.take_succ_cons, List.take_zero, List.drop_succ_cons, List.drop_zero]
          repeat (first
            | (refine det_step (fun K hK => ?_)
               apply Exists.intro
               refine ⟨Or.inl ⟨rfl, fun W hS => ?_⟩, ?_⟩
               · have hz : Ext wr W := hS; have f0 := ((HX.out.below hz).cell k).trans K1.out; have f1 := ((YW.out.below hz).cell k).trans K2.out
                 go_simp
                 first
                 | exact rfl
                 | exact ⟨rfl, hS⟩
                 | (fail)
               go_simp
               refine hK _ ?_
               clear hK K)
            | (refine det_step (fun K hK => ?_); refine det_no' rfl ?_; go_simp; refine hK _ ?_; clear hK K))
          refine det_nil ?_
          intro W hS
          replace hS : Ext wr W := hS
          have hxW := HX.out.below hS
          have g0 := (hxW.cell k).trans K1.out
          have g1 := hxW.frozen k
          have HXW := Lib.hid hxW
          have HOW := Lib.hid (HO.out.trans (Only.of_below g5 hS))
          clear hxW hS
          go_wp2_with fail
          go_roundw
          case rel =>
            refine ⟨k + 1, by omega, by go_num, ?_, HOW.out.trans (Only.set _ _ _ _)⟩
            have := HXW.out.put k (wordV (x + y)) rfl
            rw [wordsC_set, Z1.out] at this
            exact this
          case measure => simp [intOf]; omega
        · obtain rfl : k = 8 := by omega
          have zl : (List.zipWith (· + ·) L H).length = 8 := by have := HLL.out; have := HH8.out; simp; omega
          have HX := Lib.hid (show isBlk wr g5 272 arr by
            rw [MX.out]
            have := hx
            rwa [List.drop_eq_nil_of_le (by rw [HLL.out]; decide), List.append_nil, List.take_of_length_le (by omega)] at this)
          have ws : arr.size = 8 := by rw [MX.out, wordsC_size, zl]
          have w1 : arr.all (·.oneCell') = true := by rw [MX.out]; exact wordsC_one _
          have H3 := Lib.hid (ho.blk Y3.out NN.out.2)
          have HO := Lib.hid ho
          clear hx ho zl
          go_wp2_with (first
            | ((with_reducible refine at_load (t := 272) rfl ?_); refine wpList_load_row rfl _ _ rfl g5 rfl 272 arr (0, 0) _ HX.out Tryz.underlying272 rfl (by rw [ws]; kernel_rfl) ?_)
            | ((with_reducible refine at_store (t := 272) rfl ?_); refine wpList_store_row rfl _ _ _ rfl (w.heap.size + 1 + 1) arr rfl rfl 272 _ H3.out (by rw [ws]; kernel_rfl) (by rw [ws]; rfl) w1 ?_))
          refine bodyPost_ret (results_cell_row rfl _ _ (w.heap.size + 1 + 1) 272 arr (0, 0) _ rfl (setRow_heap _ _ _ _ _ _ H3.out) Tryz.underlying272 rfl (by rw [ws]; kernel_rfl)) rfl ?_
          exact ⟨rfl, below_setRow (E5.out.from' (HO.out.below G5.out E5.out.size)) (by omega) _⟩
end Go.Proofs.YtmlfnidckfeebaaGreatDoor
