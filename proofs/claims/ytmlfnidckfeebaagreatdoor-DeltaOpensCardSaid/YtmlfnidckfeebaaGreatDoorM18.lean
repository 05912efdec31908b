/- Walks: nodes. Walks: the document's nodes. Walks: nodes' digests. -/
import Derived.Shelf.Abstract
import Derived.Test.YtmlfnidckfeebaaGreatDoorM15
import Derived.Test.YtmlfnidckfeebaaGreatDoorM16
import Derived.Test.YtmlfnidckfeebaaGreatDoorM17
namespace Go.Proofs.YtmlfnidckfeebaaGreatDoor
open Go.RowKit Go.Shelf
attribute [local go_sem] yUpon strOf_toList
theorem egn1 : ∀ args w, (callFunc 310 args).run Tryz.prog w = .ok (.enter 310 args) w := enters_of Tryz.func310 (by kernel_rfl) rfl
theorem egn2 : ∀ args w, (callFunc 311 args).run Tryz.prog w = .ok (.enter 311 args) w := enters_of Tryz.func311 (by kernel_rfl) rfl
abbrev nodeA (A : Option Addr) (n cap : Nat) (B : Option Addr) (m cap' : Nat) : Array Value := #[.slice A n cap, .slice B m cap']
set_option maxRecDepth 100000 in
set_option maxHeartbeats 4000000 in
theorem nc1_calls (n : Sp.Node) (A B : Option Addr) (cap cap' g : Nat) (w : World) (hV : Vers w A n.1) (hx : isBlk w g 116 (nodeA A n.1.length cap B n.2.length cap')) :
    Calls Tryz.prog 310 #[.pointer (some ⟨g, 0, none⟩)] w fun e w' => e = .returned (.int .i64 (Sp.leaf n.1)) ∧ Ext w w' := by
  have f0 := (hx.cell 0).trans rfl
  have C := Lib.hid (leaf_calls n.1 A cap w hV)
  go_enter Tryz.func310, Tryz.ntmps310
  go_wp2_with fail
  refine C.out.mono ?_
  rintro e w1 ⟨rfl, hb⟩
  go_wp2
  go_ret
  exact ⟨rfl, hb⟩
set_option maxRecDepth 100000 in
set_option maxHeartbeats 4000000 in
theorem nc2_calls (n : Sp.Node) (A B : Option Addr) (cap cap' g : Nat) (w : World) (hK : Kids w B n.2) (hx : isBlk w g 116 (nodeA A n.1.length cap B n.2.length cap')) :
    Calls Tryz.prog 311 #[.pointer (some ⟨g, 0, none⟩)] w fun e w' => e = .returned (.int .i64 (Sp.kcheck n.2)) ∧ Ext w w' := by
  have f0 := (hx.cell 1).trans rfl
  have C := Lib.hid (kids_calls n.2 B cap' w hK)
  go_enter Tryz.func311, Tryz.ntmps311
  go_wp2_with fail
  refine C.out.mono ?_
  rintro e w1 ⟨rfl, hb⟩
  go_wp2
  go_ret
  exact ⟨rfl, hb⟩
set_option maxRecDepth 100000 in
set_option maxHeartbeats 4000000 in
theorem nfirst_calls (n : Sp.Node) (A B : Option Addr) (cap cap' g s : Nat) (w : World) (hV : Vers w A n.1) (hK : Kids w B n.2) (hx : isBlk w g 116 (nodeA A n.1.length cap B n.2.length cap'))
    (h0 : w.cell? ⟨s, 0, none⟩ = some (.func (.func 310) #[] #[.pointer (some ⟨g, 0, none⟩)]))
    (h1 : w.cell? ⟨s, 1, none⟩ = some (.func (.func 311) #[] #[.pointer (some ⟨g, 0, none⟩)])) :
    Calls Tryz.prog 309 #[.slice (some ⟨s, 0, none⟩) 2 2] w fun e w' => e = .returned (.int .i64 (Sp.ncheck n)) ∧ Ext w w' := by
  have eg1 := egn1
  have eg2 := egn2
  go_enter Tryz.func309, Tryz.ntmps309
  go_wp2
  go_loopw [8] (fun v8 wr => ∃ k : Nat, k ≤ 2 ∧ v8 = .int .i64 k ∧ Ext w wr ∧ (0 < k → Sp.leaf n.1 = 0) ∧ (1 < k → Sp.kcheck n.2 = 0)) (fun v8 _ => 2 - (intOf v8).toNat)
  case atStart => exact ⟨0, by decide, rfl, Ext.refl _, fun h => by omega, fun h => by omega⟩
  case round =>
    obtain ⟨k, hk, rfl, hb, hl, hkk⟩ := hrel
    rcases k with _ | _ | _ | k
    · rw [show ((0 : Nat) : Int) = 0 from rfl]
      have c0 := hb.cell h0
      have C := Lib.hid (nc1_calls n A B cap cap' g wr (hV.ext hb) (hx.below hb))
      have HB := Lib.hid hb
      clear hb hl hkk
      go_wp2_with fail
      refine C.out.mono ?_
      rintro e w1 ⟨rfl, hb1⟩
      by_cases hz : Sp.leaf n.1 = 0
      · rw [hz]
        go_wp2
        refine ⟨⟨1, by omega, rfl, HB.out.trans hb1, fun _ => hz, fun h => by omega⟩, by simp [intOf]⟩
      · have F := Lib.hid (show Sp.ncheck n = Sp.leaf n.1 from if_pos hz)
        go_wp2
        go_ret
        exact ⟨ret_int F.out.symm, HB.out.trans hb1⟩
    · rw [show ((0 + 1 : Nat) : Int) = 1 from rfl]
      have hz := hl (by omega)
      have c0 := hb.cell h1
      have C := Lib.hid (nc2_calls n A B cap cap' g wr (hK.ext hb) (hx.below hb))
      have HB := Lib.hid hb
      clear hb hl hkk
      have F := Lib.hid (show Sp.ncheck n = Sp.kcheck n.2 from if_neg (by simpa using hz))
      go_wp2_with fail
      refine C.out.mono ?_
      rintro e w1 ⟨rfl, hb1⟩
      by_cases hy : Sp.kcheck n.2 = 0
      · rw [hy]
        go_wp2
        refine ⟨⟨2, by omega, rfl, HB.out.trans hb1, fun _ => hz, fun _ => hy⟩, by simp [intOf]⟩
      · go_wp2
        go_ret
        exact ⟨ret_int F.out.symm, HB.out.trans hb1⟩
    · rw [show ((0 + 1 + 1 : Nat) : Int) = 2 from rfl]
      have F := Lib.hid (show Sp.ncheck n = 0 by unfold Sp.ncheck; rw [if_neg (by rw [hl (by omega)]; simp), hkk (by omega)])
      go_wp2
      go_ret
      exact ⟨ret_int F.out.symm, hb⟩
    · omega
set_option maxRecDepth 100000 in
set_option maxHeartbeats 4000000 in
theorem ncheck_calls (n : Sp.Node) (A B : Option Addr) (cap cap' : Nat) (w : World) (hV : Vers w A n.1) (hK : Kids w B n.2) :
    Calls Tryz.prog 288 #[nodeV A n.1.length cap B n.2.length cap'] w fun e w' => e = .returned (.int .i64 (Sp.ncheck n)) ∧ Ext w w' := by
  obtain ⟨W0, hW0⟩ : ∃ W0, W0 = w.alloc (.cells (nodeA A n.1.length cap B n.2.length cap') 116) := ⟨_, rfl⟩
  have E0 := Lib.hid (show Ext w W0 by rw [hW0]; exact Ext.alloc _ _)
  have X0 := Lib.hid (show isBlk W0 w.heap.size 116 (nodeA A n.1.length cap B n.2.length cap') by rw [hW0]; exact box_at _ _ _)
  have HW := Lib.hid hW0.symm
  have SZ := Lib.hid (show W0.heap.size = w.heap.size + 1 by rw [hW0]; simp)
  clear hW0
  go_enter Tryz.func288, Tryz.ntmps288
  go_wp2_with fail
  have X1 := X0.out.below (Ext.alloc W0 (.cells #[.func (.func 310) #[] #[.pointer (some ⟨w.heap.size, 0, none⟩)], .func (.func 311) #[] #[.pointer (some ⟨w.heap.size, 0, none⟩)]] 252))
  have Y1 := box_at W0 #[.func (.func 310) #[] #[.pointer (some ⟨w.heap.size, 0, none⟩)], .func (.func 311) #[] #[.pointer (some ⟨w.heap.size, 0, none⟩)]] 252
  have E1 := Lib.hid (E0.out.trans (Ext.alloc W0 (.cells #[.func (.func 310) #[] #[.pointer (some ⟨w.heap.size, 0, none⟩)], .func (.func 311) #[] #[.pointer (some ⟨w.heap.size, 0, none⟩)]] 252)))
  rw [HW.out]
  rw [SZ.out] at Y1
  refine (nfirst_calls n A B cap cap' w.heap.size (w.heap.size + 1) _ (hV.ext E1.out) (hK.ext E1.out) X1 ((Y1.cell 0).trans rfl) ((Y1.cell 1).trans rfl)).mono ?_
  rintro e w2 ⟨rfl, hb2⟩
  go_wp2
  go_ret
  exact ⟨rfl, E1.out.trans hb2⟩
set_option maxRecDepth 100000 in
set_option maxHeartbeats 4000000 in
theorem nbytes_calls (n : Sp.Node) (A B : Option Addr) (cap cap' : Nat) (w : World) (hV : Vers w A n.1) (hK : Kids w B n.2) :
    Calls Tryz.prog 261 #[nodeV A n.1.length cap B n.2.length cap'] w fun e w' => e = .returned (.tuple #[.string (strOf (Sp.nbytes n).1), .int .i64 (Sp.nbytes n).2]) ∧ Ext w w' := by
  obtain ⟨W0, hW0⟩ : ∃ W0, W0 = w.alloc (.cells (nodeA A n.1.length cap B n.2.length cap') 116) := ⟨_, rfl⟩
  have E0 := Lib.hid (show Ext w W0 by rw [hW0]; exact Ext.alloc _ _)
  obtain ⟨g0, hg0⟩ : ∃ g0, g0 = w.heap.size := ⟨_, rfl⟩
  have X0 := Lib.hid (show isBlk W0 g0 116 (nodeA A n.1.length cap B n.2.length cap') by rw [hW0, hg0]; exact box_at _ _ _)
  have HW := Lib.hid hW0.symm
  have CK := Lib.hid (ncheck_calls n A B cap cap' W0 (hV.ext E0.out) (hK.ext E0.out))
  clear hW0
  go_enter Tryz.func261, Tryz.ntmps261
  go_wp2_with fail
  rw [HW.out, ← hg0]
  clear hg0
  refine CK.out.mono ?_
  rintro e W1 ⟨rfl, hb1⟩
  have E1 := Lib.hid (E0.out.trans hb1)
  have X1 := Lib.hid (X0.out.below hb1)
  have V1 := Lib.hid (hV.ext E1.out)
  have K1 := Lib.hid (hK.ext E1.out)
  clear hb1 hV hK
  by_cases hc : Sp.ncheck n = 0
  · rw [hc]
    have NB := Lib.hid (show Sp.nbytes n = Sp.wdone (Sp.wnode n) from if_neg (by simpa using hc))
    obtain ⟨hleaf, hk128, hkgo⟩ := Sp.ncheck_ok hc
    have Y0 := Lib.hid (show IsWr W1.heap.size W1.heap.size ([], 0) (W1.alloc (.cells #[.pointer none, .slice none 0 0, .int .i64 0] 176)) from
      ⟨Nat.le_refl _, .pointer none, .slice none 0 0, .inl rfl, heap_alloc_new _ _, World.ownsRow_nil _ _ _ _, by simp [Value.ownBlock]⟩)
    have f0 := ((X1.out.alloc (.cells #[.pointer none, .slice none 0 0, .int .i64 0] 176)).cell 0).trans rfl
    go_wp2_with fail
    refine (putleaf_calls W1 W1.heap.size ([], 0) n.1 A cap _ (Ext.alloc _ _) Y0.out V1.out (by simp)).mono ?_
    rintro e w2 ⟨rfl, t2⟩
    have B2 := Lib.hid (t2.ext (Ext.alloc _ _))
    have L2 := Lib.hid (Sp.wleaf_len n.1 ([], 0))
    have f1 := ((X1.out.below B2.out).cell 1).trans rfl
    have W2 := Lib.hid t2.wr
    clear t2 f0
    go_wp2_with fail
    refine (wnum_calls W1.heap.size W1.heap.size _ (n.2.length : Int) w2 W2.out (by have := L2.out; simp at this; omega) B2.out.size).mono ?_
    rintro e w3 ⟨rfl, hw3, hb3, _, hs3⟩
    have B3 := Lib.hid (show Below W1.heap.size W1 w3 from hb3.from B2.out)
    have f1 := ((X1.out.below B3.out).cell 1).trans rfl
    obtain ⟨x0, hx0⟩ : ∃ x0, x0 = Sp.wnum n.2.length (Sp.wleaf n.1 ([], 0)) := ⟨_, rfl⟩
    have L3 := Lib.hid (show x0.1.length ≤ 50000 by
      have h1 := Sp.wnum_len (n.2.length : Int) (Sp.wleaf n.1 ([], 0)); have h2 := L2.out; rw [hx0]; simp at h2; omega)
    rw [← hx0] at hw3
    have W3 := Lib.hid hw3
    have NN := Lib.hid (show Sp.wnode n = Sp.wkids n.2 x0 by rw [hx0]; rfl)
    have NS := Lib.hid (Sp.wnode_some n)
    obtain ⟨l, hl⟩ : ∃ l, l = n.2 := ⟨_, rfl⟩
    rw [← hl] at NN K1 hk128 f1 X1 ⊢
    clear hb3 hw3 hx0 hl B2 W2 hs3
    go_wp2_with fail
    clear f1
    obtain ⟨B, hB⟩ : ∃ B, B = W1.heap.size := ⟨_, rfl⟩
    rw [← hB] at W3 B3 ⊢
    have HBB := Lib.hid hB
    clear hB
    go_loopw [27] (fun v27 wr => ∃ k : Nat, k ≤ l.length ∧ v27 = .int .i64 k ∧ IsWr B B (Sp.wkids (l.take k) x0) wr ∧ Below B W1 wr) (fun v27 _ => l.length - (intOf v27).toNat)
    case atStart => exact ⟨0, Nat.zero_le _, rfl, W3.out, B3.out⟩
    case round =>
      obtain ⟨k, hk, rfl, hw, hb⟩ := hrel
      have hb' : Ext W1 wr := by have := hb; rwa [HBB.out] at this
      by_cases hlt : k < l.length
      · obtain ⟨g, o, rfl, hat⟩ := (K1.out.ext hb').at (Nat.lt_of_le_of_lt (Nat.zero_le _) hlt)
        have hok := K1.out.2 l[k] (List.getElem_mem hlt)
        have hR := hat k hlt
        have tk := List.take_succ_eq_append_getElem hlt
        have LK := Sp.wkids_len 1000000 32 (l.take k) x0 (fun j hj => by have := K1.out.2 j (List.mem_of_mem_take hj); omega)
        rw [List.length_take, Nat.min_eq_left hk] at LK
        have LK' := Lib.hid (show (Sp.wkids (l.take k) x0).1.length ≤ 1000000000 by
          have := L3.out
          have : k * (1000000 + 32 + 20) ≤ 128 * (1000000 + 32 + 20) := Nat.mul_le_mul_right _ (by omega)
          omega)
        obtain ⟨kd, hkd⟩ : ∃ kd, kd = l[k] := ⟨_, rfl⟩
        rw [← hkd] at hok hR tk
        have HR := Lib.hid hR
        have TK := Lib.hid (show Sp.wkids (l.take (k + 1)) x0 = Sp.wkid kd (Sp.wkids (l.take k) x0) by rw [tk, Sp.wkids_snoc])
        obtain ⟨xk, hxk⟩ : ∃ xk, xk = Sp.wkids (l.take k) x0 := ⟨_, rfl⟩
        rw [← hxk] at hw TK LK'
        have KL := kidL_len kd hok.1
        have ka : ((kidL kd).toArray).size = 33 := by simp [KL]
        have k0 : ((kidL kd).toArray)[0]? = some (.string (strOf kd.1)) := rfl
        have HWR := Lib.hid hw
        have HB := Lib.hid hb
        have HB' := Lib.hid hb'
        clear hR hb hat hkd hw tk LK hxk hb'
        have tok2 : True := trivial
        have tok3 : True := trivial
        have tok4 : True := trivial
        go_wp2_with (first
          | (have _t2 := tok2; (with_reducible refine at_load (t := 268) rfl ?_); refine wpList_load_mid rfl _ _ rfl g (o + k * 33) rfl (kidL kd) _ HR.out Tryz.underlying268 rfl (by rw [KL]; kernel_rfl) ?_; clear tok2 _t2)
          | (have _t3 := tok3; ((with_reducible refine at_alloc (t := 268) rfl ?_); refine box_new rfl (cs := kid0) (t := 268) (by first | (go_simp; done) | (go_simp; rfl)) ?_; intro g4 w4 hg4 hx4 hb4; have H4 := Lib.hid hx4; have B4 := Lib.hid hb4; have GG4 := Lib.hid hg4; clear tok3 _t3 hx4 hb4 hg4))
          | (have _t4 := tok4; ((with_reducible refine at_store (t := 268) rfl ?_); refine wpList_store_row rfl _ _ _ rfl g4 (kidL kd).toArray rfl rfl 268 _ H4.out (by rw [ka]; kernel_rfl) (by rw [ka]; rfl) (kid_one kd) ?_; obtain ⟨w5, hw5⟩ : ∃ w5, w5 = w4.setRow g4 (kidL kd).toArray := ⟨_, rfl⟩; rw [← hw5]; have B5 := Lib.hid (show Ext wr w5 by rw [hw5]; exact below_setRow B4.out GG4.out _); have X5 := Lib.hid (show isBlk w5 g4 268 (kidL kd).toArray by rw [hw5]; exact setRow_heap _ _ _ _ _ _ H4.out); have f0 := (X5.out.cell 0).trans k0; clear hw5 tok4 _t4)))
        have S5 := Lib.hid (show B ≤ w5.heap.size by have := B5.out.size; have := HB.out.size; have := HBB.out; omega)
        refine (wtext_calls B B xk (strOf kd.1) w5 (HWR.out.below B5.out) (by have := LK'.out; omega) (by rw [strOf_size]; omega) S5.out).mono ?_
        rintro e w6 ⟨rfl, hw6, hb6, hk6, hs6⟩
        rw [strOf_data] at hw6
        have W6 := Lib.hid hw6
        have X6 := Lib.hid (hk6 _ _ _ X5.out (by decide) (by decide))
        have S6 := Lib.hid (Nat.le_trans S5.out hs6)
        have B6 := Lib.hid (HB.out.trans ((B5.out.mono (by have := HB.out.size; have := HBB.out; omega)).trans hb6))
        have L6 := Lib.hid (show (Sp.wtext kd.1 xk).1.length ≤ 1000000000000 by have := Sp.wtext_len kd.1 xk; have := LK'.out; omega)
        have D6 := Lib.hid (X6.out.rangeAt 1 (kd.2.map byteV) (fun j v hv => by
          rw [List.getElem?_toArray]
          unfold kidL
          rw [Nat.add_comm 1 j, List.getElem?_cons_succ]; exact hv))
        clear hw6 hb6 hk6 hs6 f0
        go_wp2_with ((with_reducible refine at_load (t := 36) rfl ?_); refine wpList_load_mid rfl _ _ rfl g4 1 rfl (kd.2.map byteV) _ D6.out Tryz.underlying36 rfl (by rw [List.length_map, hok.1]; kernel_rfl) ?_)
        refine (wdigest_calls B B _ kd.2 w6 hok.1 W6.out (by have := L6.out; omega) S6.out).mono ?_
        rintro e w7 ⟨rfl, t7⟩
        go_wp2
        go_roundw
        case rel => exact ⟨k + 1, by omega, by go_num, by rw [TK.out]; exact t7.wr, B6.out.trans t7.below⟩
        case measure => simp [intOf]; omega
      · obtain rfl : k = l.length := by omega
        rw [List.take_length, ← NN.out] at hw
        have DN := Lib.hid (wdone_calls B B (Sp.wnode n) wr hw NS.out)
        have HB' := Lib.hid hb'
        clear hw hb
        go_wp2_with fail
        refine DN.out.mono ?_
        rintro e w8 ⟨rfl, hb8⟩
        go_wp2
        go_ret2
        rw [NB.out]
        rw [HBB.out] at hb8
        exact ⟨rfl, E1.out.trans (hb8.from HB'.out)⟩
  · have NB := Lib.hid (show Sp.nbytes n = ([], Sp.ncheck n) from if_pos (by simpa using hc))
    go_wp2
    go_ret2
    rw [NB.out]
    exact ⟨rfl, E1.out⟩
end Go.Proofs.YtmlfnidckfeebaaGreatDoor
namespace Go.Proofs.YtmlfnidckfeebaaGreatDoor
open Go.RowKit Go.Shelf
attribute [local go_sem] yUpon strOf_toList
theorem isRW.below {w w1 : World} {g : Nat} {x : Sp.W} (h : isRW w g x) (hb : Below w.heap.size w w1) : isRW w1 g x := isBlk.below h hb
set_option maxRecDepth 100000 in
set_option maxHeartbeats 4000000 in
theorem rnbytes_calls (n : Sp.Node) (A B : Option Addr) (cap cap' : Nat) (w : World) (hV : Vers w A n.1) (hK : Kids w B n.2) (hl : n.1.length ≤ 1000) (hd : ∀ v ∈ n.1, v.data.length ≤ 100000 ∧ v.past.length ≤ 100000) (hk : n.2.length ≤ 1000) :
    Calls Tryz.prog 148 #[nodeV A n.1.length cap B n.2.length cap'] w fun e w' => e = .returned (.tuple #[.string (strOf (Sp.nbytes n).1), .int .i64 (Sp.nbytes n).2]) ∧ Ext w w' := by
  obtain ⟨W0, hW0⟩ : ∃ W0, W0 = w.alloc (.cells (nodeA A n.1.length cap B n.2.length cap') 116) := ⟨_, rfl⟩
  have E0 := Lib.hid (show Ext w W0 by rw [hW0]; exact Ext.alloc _ _)
  obtain ⟨g0, hg0⟩ : ∃ g0, g0 = w.heap.size := ⟨_, rfl⟩
  have X0 := Lib.hid (show isBlk W0 g0 116 (nodeA A n.1.length cap B n.2.length cap') by rw [hW0, hg0]; exact box_at _ _ _)
  have HW := Lib.hid hW0.symm
  have SZ := Lib.hid (show w.heap.size + 1 = W0.heap.size by rw [hW0]; simp)
  have V0 := Lib.hid (hV.ext E0.out)
  have K0 := Lib.hid (hK.ext E0.out)
  obtain ⟨W1, hW1⟩ : ∃ W1, W1 = W0.alloc (.cells #[.string (strOf []), .int .i64 0] 186) := ⟨_, rfl⟩
  have HW1 := Lib.hid (show W0.alloc (.cells #[.string ⟨#[]⟩, .int .i64 0] 186) = W1 from hW1.symm)
  have E1 := Lib.hid (show Ext W0 W1 by rw [hW1]; exact Ext.alloc _ _)
  obtain ⟨g, hg⟩ : ∃ g, g = W0.heap.size := ⟨_, rfl⟩
  have Y1 := Lib.hid (show isRW W1 g ([], 0) by rw [hW1, hg]; exact box_at _ _ _)
  have HG := Lib.hid (show W0.heap.size ≤ g by omega)
  have CK := Lib.hid (rncheck_calls n A B cap cap' W1 (V0.out.ext E1.out) (K0.out.ext E1.out))
  clear hW0 hV hK hW1
  go_enter Tryz.func148, Tryz.ntmps148
  go_wp2_with fail
  rw [HW.out, SZ.out, ← hg, ← hg0]
  rw [HW1.out]
  refine CK.out.mono ?_
  rintro e W2 ⟨rfl, hb2⟩
  have E2 := Lib.hid (E1.out.trans hb2)
  have Y2 := Lib.hid (Y1.out.below hb2)
  have LL := Lib.hid (show ∀ c : Int, (Sp.wfail c ([], 0)).1.length = 0 from fun c => by unfold Sp.wfail; rfl)
  have G0 := Lib.hid (show g0 ≠ g by have := SZ.out; omega)
  clear hb2 hg0 hg
  go_wp2_with fail
  refine (rwfail_calls g ([], 0) (Sp.ncheck n) W2 Y2.out).mono ?_
  rintro e W3 ⟨rfl, hw3, ho3⟩
  have Y3 := Lib.hid hw3
  have E3 := Lib.hid (E2.out.from' (ho3.below HG.out E2.out.size))
  have f0 := ((X0.out.below E3.out).cell 0).trans rfl
  clear hw3 ho3
  go_wp2_with fail
  refine (rputleaf_calls W0 g (Sp.wfail (Sp.ncheck n) ([], 0)) n.1 A cap W3 E3.out HG.out Y3.out V0.out hl hd (by rw [LL.out]; decide)).mono ?_
  rintro e W4 ⟨rfl, t4⟩
  have Y4 := Lib.hid t4.wr
  have E4 := Lib.hid (t4.ext HG.out E3.out)
  have L4 := Lib.hid (show (Sp.wleaf n.1 (Sp.wfail (Sp.ncheck n) ([], 0))).1.length ≤ 45381 by have := Sp.wleaf_len n.1 (Sp.wfail (Sp.ncheck n) ([], 0)); rw [LL.out] at this; omega)
  have f1 := ((X0.out.below E4.out).cell 1).trans rfl
  clear t4 f0
  go_wp2_with fail
  refine (rwnum_calls g _ (n.2.length : Int) W4 Y4.out (by have := L4.out; omega)).mono ?_
  rintro e W5 ⟨rfl, hw5, ho5⟩
  have E5 := Lib.hid (E4.out.from' (ho5.below HG.out E4.out.size))
  obtain ⟨x0, hx0⟩ : ∃ x0, x0 = Sp.wnum n.2.length (Sp.wleaf n.1 (Sp.wfail (Sp.ncheck n) ([], 0))) := ⟨_, rfl⟩
  have L5 := Lib.hid (show x0.1.length ≤ 50000 by
    have h1 := Sp.wnum_len (n.2.length : Int) (Sp.wleaf n.1 (Sp.wfail (Sp.ncheck n) ([], 0))); have h2 := L4.out; rw [hx0]; omega)
  rw [← hx0] at hw5
  have Y5 := Lib.hid hw5
  have NN := Lib.hid (show Sp.rnode n = Sp.wkids n.2 x0 by rw [hx0]; rfl)
  have NO := Lib.hid (Sp.rnode_ok n)
  obtain ⟨l, hll⟩ : ∃ l, l = n.2 := ⟨_, rfl⟩
  rw [← hll] at NN K0 hk X0 ⊢
  clear hw5 ho5 hx0 hll f1
  go_wp2_with fail
  go_loopw [5] (fun v5 wr => ∃ k : Nat, k ≤ l.length ∧ v5 = .int .i64 k ∧ isRW wr g (Sp.wkids (l.take k) x0) ∧ Ext W0 wr) (fun v5 _ => l.length - (intOf v5).toNat)
  case atStart => exact ⟨0, Nat.zero_le _, rfl, Y5.out, E5.out⟩
  case round =>
    obtain ⟨k, hkl, rfl, hw, hb⟩ := hrel
    have f1 := ((X0.out.below hb).cell 1).trans rfl
    by_cases hlt : k < l.length
    · obtain ⟨ga, o, rfl, hat⟩ := (K0.out.ext hb).at (Nat.lt_of_le_of_lt (Nat.zero_le _) hlt)
      have hok := K0.out.2 l[k] (List.getElem_mem hlt)
      have hR := (K0.out.at (Nat.lt_of_le_of_lt (Nat.zero_le _) hlt))
      obtain ⟨ga', o', hA, hR0⟩ := hR
      cases hA
      have hR := hR0 k hlt
      have tk := List.take_succ_eq_append_getElem hlt
      have LK := Sp.wkids_len 1000000 32 (l.take k) x0 (fun j hj => by have := K0.out.2 j (List.mem_of_mem_take hj); omega)
      rw [List.length_take, Nat.min_eq_left hkl] at LK
      have LK' := Lib.hid (show (Sp.wkids (l.take k) x0).1.length ≤ 1000000000000 by
        have := L5.out
        have : k * (1000000 + 32 + 20) ≤ 1000 * (1000000 + 32 + 20) := Nat.mul_le_mul_right _ (by omega)
        omega)
      obtain ⟨kd, hkd⟩ : ∃ kd, kd = l[k] := ⟨_, rfl⟩
      rw [← hkd] at hok hR tk
      have HR := Lib.hid hR
      have TK := Lib.hid (show Sp.wkids (l.take (k + 1)) x0 = Sp.wkid kd (Sp.wkids (l.take k) x0) by rw [tk, Sp.wkids_snoc])
      obtain ⟨xk, hxk⟩ : ∃ xk, xk = Sp.wkids (l.take k) x0 := ⟨_, rfl⟩
      rw [← hxk] at hw TK LK'
      have KL := kidL_len kd hok.1
      have HWR := Lib.hid hw
      have HB := Lib.hid hb
      have k0 := hb.cell (kid_name HR.out)
      have D0 := Lib.hid (show W0.rangeAt ga (o + k * 33 + 1) (kd.2.map byteV) from fun j v hv => by
        rw [Nat.add_assoc _ 1 j]
        refine HR.out (1 + j) v ?_
        unfold kidL
        rw [Nat.add_comm 1 j, List.getElem?_cons_succ]; exact hv)
      clear hR hR0 hb hat hkd hw tk LK hxk
      go_wp2_with fail
      refine (rwtext_calls g xk (strOf kd.1) wr HWR.out (by have := LK'.out; omega) (by rw [strOf_size]; omega)).mono ?_
      rintro e w6 ⟨rfl, hw6, ho6⟩
      rw [strOf_data] at hw6
      have W6 := Lib.hid hw6
      have E6 := Lib.hid (HB.out.from' (ho6.below HG.out HB.out.size))
      have L6 := Lib.hid (show (Sp.wtext kd.1 xk).1.length ≤ 10000000000000 by have := Sp.wtext_len kd.1 xk; have := LK'.out; omega)
      have D6 := Lib.hid (show w6.rangeAt ga (o + k * 33 + 1) (kd.2.map byteV) from fun j v hv => E6.out.cell (D0.out j v hv))
      clear hw6 ho6 k0 f1
      have f1 := ((X0.out.below E6.out).cell 1).trans rfl
      go_wp2_with ((with_reducible refine at_load (t := 36) rfl ?_); refine wpList_load_mid rfl _ _ rfl ga (o + k * 33 + 1) rfl (kd.2.map byteV) _ D6.out Tryz.underlying36 rfl (by rw [List.length_map, hok.1]; kernel_rfl) ?_)
      refine (rwdigest_calls g _ kd.2 w6 hok.1 W6.out (by have := L6.out; omega)).mono ?_
      rintro e w7 ⟨rfl, t7⟩
      go_wp2
      go_roundw
      case rel => exact ⟨k + 1, by omega, by go_num, by rw [TK.out]; exact t7.wr, t7.ext HG.out E6.out⟩
      case measure => simp [intOf]; omega
    · obtain rfl : k = l.length := by omega
      rw [List.take_length, ← NN.out] at hw
      have DN := Lib.hid (rwdone_calls g (Sp.rnode n) wr hw)
      rw [NO.out] at DN
      have HB := Lib.hid hb
      clear hw hb
      go_wp2_with fail
      refine DN.out.mono ?_
      rintro e w8 ⟨rfl, hb8⟩
      go_wp2
      go_ret2
      exact ⟨rfl, E0.out.trans (HB.out.trans hb8)⟩
end Go.Proofs.YtmlfnidckfeebaaGreatDoor
namespace Go.Proofs.YtmlfnidckfeebaaGreatDoor
open Go.RowKit Go.Shelf
attribute [local go_sem] yUpon strOf_toList
theorem Sp.nbytes_len (n : Sp.Node) (h : KidsOk n.2) (hc : (Sp.nbytes n).2 = 0) : (Sp.nbytes n).1.length ≤ 4000000000 := by
  unfold Sp.nbytes at *
  by_cases h0 : Sp.ncheck n = 0
  · rw [if_neg (by simpa using h0)] at *
    obtain ⟨_, h2, _⟩ := Sp.ncheck_ok h0
    have h1 := Sp.wleaf_len n.1 ([], 0)
    have h3 := Sp.wnum_len (n.2.length : Int) (Sp.wleaf n.1 ([], 0))
    have h4 := Sp.wkids_len 1000000 32 n.2 (Sp.wnum n.2.length (Sp.wleaf n.1 ([], 0))) (fun k hk => by have := h k hk; omega)
    have h5 : n.2.length * (1000000 + 32 + 20) ≤ 128 * (1000000 + 32 + 20) := Nat.mul_le_mul_right _ h2
    have h6 : (Sp.wdone (Sp.wnode n)).1.length ≤ (Sp.wnode n).1.length := by unfold Sp.wdone; split <;> simp
    unfold Sp.wnode at *
    simp at h1
    omega
  · rw [if_pos (by simpa using h0)]; simp
set_option maxRecDepth 100000 in
set_option maxHeartbeats 4000000 in
theorem nsum_calls (n : Sp.Node) (A B : Option Addr) (cap cap' : Nat) (w : World) (hV : Vers w A n.1) (hK : Kids w B n.2)  (K : KeysAt w 2) :
    Calls Tryz.prog 219 #[nodeV A n.1.length cap B n.2.length cap'] w fun e w' => e = .returned (digV (Sp.nsum n)) ∧ Ext w w' := by
  have hsl := Sp.nsum_len n
  have hds := digC_size (Sp.nsum n)
  obtain ⟨arr, ha⟩ : ∃ arr, arr = digC (Sp.nsum n) := ⟨_, rfl⟩
  have HA := Lib.hid ha
  rw [← ha] at hds
  have w1 : arr.all (·.oneCell') = true := by rw [ha]; exact all_oneCell_toArray (bytes_one _)
  clear ha
  rw [show digV (Sp.nsum n) = .agg (digC (Sp.nsum n)) from rfl, ← HA.out]
  have tok2 : True := trivial
  obtain ⟨W0, hW0⟩ : ∃ W0, W0 = w.alloc (.cells (nodeA A n.1.length cap B n.2.length cap') 116) := ⟨_, rfl⟩
  have E0 := Lib.hid (show Ext w W0 by rw [hW0]; exact Ext.alloc _ _)
  have X0 := Lib.hid (show isBlk W0 w.heap.size 116 (nodeA A n.1.length cap B n.2.length cap') by rw [hW0]; exact box_at _ _ _)
  have HW := Lib.hid (show w.alloc (.cells #[.slice A n.1.length cap, .slice B n.2.length cap'] 116) = W0 from hW0.symm)
  have SZ := Lib.hid (show W0.heap.size = w.heap.size + 1 by rw [hW0]; simp)
  have CB := Lib.hid fun W (h : Ext W0 W) => nbytes_calls n A B cap cap' W (hV.ext (E0.out.trans h)) (hK.ext (E0.out.trans h)) 
  clear hW0
  go_enter Tryz.func219, Tryz.ntmps219
  go_wp2_with (have _t2 := tok2; ((with_reducible refine at_alloc (t := 36) rfl ?_); refine box_new rfl (cs := zero32) (t := 36) (by first | (go_simp; done) | (go_simp; rfl)) ?_; intro g2 w2 hg2 hx2 hb2; rw [HW.out] at hb2 hg2; have f0 := ((X0.out.below hb2).cell 0).trans rfl; have f1 := ((X0.out.below hb2).cell 1).trans rfl; have H2 := Lib.hid hx2; have B2 := Lib.hid hb2; have GG2 := Lib.hid hg2; clear tok2 _t2 hx2 hb2 hg2))
  refine (CB.out _ B2.out).mono ?_
  rintro e w3 ⟨rfl, hb3⟩
  have H3 := Lib.hid (H2.out.below hb3)
  have E3 := Lib.hid (E0.out.trans (Ext.trans B2.out hb3))
  clear hb3 f0 f1
  by_cases hc : (Sp.nbytes n).2 = 0
  · rw [hc]
    have F := Lib.hid (show Sp.sha (Sp.nbytes n).1 = Sp.nsum n from (if_neg (by simpa using hc)).symm)
    have hlen : (Sp.nbytes n).1.length ≤ 4000000000 := Sp.nbytes_len n hK.2 hc
    have SO := Lib.hid (sha_calls (Sp.nbytes n).1 w3 hlen (K.ext E3.out))
    rw [F.out, show digV (Sp.nsum n) = .agg (digC (Sp.nsum n)) from rfl, ← HA.out] at SO
    go_wp2_with fail
    refine SO.out.mono ?_
    rintro e w4 ⟨rfl, hb4⟩
    have H4 := Lib.hid (H3.out.below hb4)
    have E4 := Lib.hid (E3.out.trans hb4)
    clear hb4
    go_wp2_with ((with_reducible refine at_store (t := 36) rfl ?_); refine wpList_store_row rfl _ _ _ rfl g2 arr rfl rfl 36 _ H4.out (by rw [hds, hsl]; kernel_rfl) (by rw [hds, hsl]; rfl) w1 ?_)
    refine bodyPost_ret (results_cell_row rfl _ _ g2 36 arr (0, 0) _ rfl (setRow_heap _ _ _ _ _ _ H4.out) Tryz.underlying36 rfl (by rw [hds, hsl]; kernel_rfl)) rfl ?_
    exact ⟨rfl, below_setRow E4.out (by have := GG2.out; have := SZ.out; omega) _⟩
  · have F := Lib.hid (show arr = zero32 by rw [HA.out, show Sp.nsum n = List.replicate 32 0 from if_pos (by simpa using hc)])
    go_wp2_with ((with_reducible refine at_store (t := 36) rfl ?_); refine wpList_store_row rfl _ _ _ rfl g2 zero32 rfl rfl 36 _ H3.out (by kernel_rfl) (by kernel_rfl) (by kernel_rfl) ?_)
    refine bodyPost_ret (results_cell_row rfl _ _ g2 36 zero32 (0, 0) _ rfl (setRow_heap _ _ _ _ _ _ H3.out) Tryz.underlying36 rfl (by kernel_rfl)) rfl ?_
    exact ⟨by rw [F.out], below_setRow E3.out (by have := GG2.out; have := SZ.out; omega) _⟩
set_option maxRecDepth 100000 in
set_option maxHeartbeats 4000000 in
theorem rnsum_calls (n : Sp.Node) (A B : Option Addr) (cap cap' : Nat) (w : World) (hV : Vers w A n.1) (hK : Kids w B n.2) (hl : n.1.length ≤ 1000) (hd : ∀ v ∈ n.1, v.data.length ≤ 100000 ∧ v.past.length ≤ 100000) (hk : n.2.length ≤ 1000) (K : KeysAt w 0) :
    Calls Tryz.prog 217 #[nodeV A n.1.length cap B n.2.length cap'] w fun e w' => e = .returned (digV (Sp.nsum n)) ∧ Ext w w' := by
  have hsl := Sp.nsum_len n
  have hds := digC_size (Sp.nsum n)
  obtain ⟨arr, ha⟩ : ∃ arr, arr = digC (Sp.nsum n) := ⟨_, rfl⟩
  have HA := Lib.hid ha
  rw [← ha] at hds
  have w1 : arr.all (·.oneCell') = true := by rw [ha]; exact all_oneCell_toArray (bytes_one _)
  clear ha
  rw [show digV (Sp.nsum n) = .agg (digC (Sp.nsum n)) from rfl, ← HA.out]
  have tok2 : True := trivial
  obtain ⟨W0, hW0⟩ : ∃ W0, W0 = w.alloc (.cells (nodeA A n.1.length cap B n.2.length cap') 116) := ⟨_, rfl⟩
  have E0 := Lib.hid (show Ext w W0 by rw [hW0]; exact Ext.alloc _ _)
  have X0 := Lib.hid (show isBlk W0 w.heap.size 116 (nodeA A n.1.length cap B n.2.length cap') by rw [hW0]; exact box_at _ _ _)
  have HW := Lib.hid (show w.alloc (.cells #[.slice A n.1.length cap, .slice B n.2.length cap'] 116) = W0 from hW0.symm)
  have SZ := Lib.hid (show W0.heap.size = w.heap.size + 1 by rw [hW0]; simp)
  have CB := Lib.hid fun W (h : Ext W0 W) => rnbytes_calls n A B cap cap' W (hV.ext (E0.out.trans h)) (hK.ext (E0.out.trans h)) hl hd hk
  clear hW0
  go_enter Tryz.func217, Tryz.ntmps217
  go_wp2_with (have _t2 := tok2; ((with_reducible refine at_alloc (t := 36) rfl ?_); refine box_new rfl (cs := zero32) (t := 36) (by first | (go_simp; done) | (go_simp; rfl)) ?_; intro g2 w2 hg2 hx2 hb2; rw [HW.out] at hb2 hg2; have f0 := ((X0.out.below hb2).cell 0).trans rfl; have f1 := ((X0.out.below hb2).cell 1).trans rfl; have H2 := Lib.hid hx2; have B2 := Lib.hid hb2; have GG2 := Lib.hid hg2; clear tok2 _t2 hx2 hb2 hg2))
  refine (CB.out _ B2.out).mono ?_
  rintro e w3 ⟨rfl, hb3⟩
  have H3 := Lib.hid (H2.out.below hb3)
  have E3 := Lib.hid (E0.out.trans (Ext.trans B2.out hb3))
  clear hb3 f0 f1
  by_cases hc : (Sp.nbytes n).2 = 0
  · rw [hc]
    have F := Lib.hid (show Sp.sha (Sp.nbytes n).1 = Sp.nsum n from (if_neg (by simpa using hc)).symm)
    have hlen : (Sp.nbytes n).1.length ≤ 4000000000 := Sp.nbytes_len n hK.2 hc
    have SO := Lib.hid (rsha_calls (Sp.nbytes n).1 w3 hlen (K.ext E3.out))
    rw [F.out, show digV (Sp.nsum n) = .agg (digC (Sp.nsum n)) from rfl, ← HA.out] at SO
    go_wp2_with fail
    refine SO.out.mono ?_
    rintro e w4 ⟨rfl, hb4⟩
    have H4 := Lib.hid (H3.out.below hb4)
    have E4 := Lib.hid (E3.out.trans hb4)
    clear hb4
    go_wp2_with ((with_reducible refine at_store (t := 36) rfl ?_); refine wpList_store_row rfl _ _ _ rfl g2 arr rfl rfl 36 _ H4.out (by rw [hds, hsl]; kernel_rfl) (by rw [hds, hsl]; rfl) w1 ?_)
    refine bodyPost_ret (results_cell_row rfl _ _ g2 36 arr (0, 0) _ rfl (setRow_heap _ _ _ _ _ _ H4.out) Tryz.underlying36 rfl (by rw [hds, hsl]; kernel_rfl)) rfl ?_
    exact ⟨rfl, below_setRow E4.out (by have := GG2.out; have := SZ.out; omega) _⟩
  · have F := Lib.hid (show arr = zero32 by rw [HA.out, show Sp.nsum n = List.replicate 32 0 from if_pos (by simpa using hc)])
    go_wp2_with ((with_reducible refine at_store (t := 36) rfl ?_); refine wpList_store_row rfl _ _ _ rfl g2 zero32 rfl rfl 36 _ H3.out (by kernel_rfl) (by kernel_rfl) (by kernel_rfl) ?_)
    refine bodyPost_ret (results_cell_row rfl _ _ g2 36 zero32 (0, 0) _ rfl (setRow_heap _ _ _ _ _ _ H3.out) Tryz.underlying36 rfl (by kernel_rfl)) rfl ?_
    exact ⟨by rw [F.out], below_setRow E3.out (by have := GG2.out; have := SZ.out; omega) _⟩
end Go.Proofs.YtmlfnidckfeebaaGreatDoor
