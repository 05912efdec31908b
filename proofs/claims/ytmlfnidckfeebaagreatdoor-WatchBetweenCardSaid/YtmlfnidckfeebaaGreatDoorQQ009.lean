/- Walks: a text's digest. A slice of the call's own whose block bears a mark behind its end ('[]byte(s)'): one cell and one byte an element. Walks: nodes. Walks: the document's nodes. Walks: nodes' digests. Walks: slices.Clone. Walks: a node without what is deleted; an empty one; two nodes. -/
import Derived.Lib.FrozenHead
import Derived.WalkLawsBesides
import Derived.Deep.RegionLaw
import Derived.Test.YtmlfnidckfeebaaGreatDoorQQ008
namespace Go.Proofs.YtmlfnidckfeebaaGreatDoor
open Go.RowKit
namespace Sp
theorem sha_split (l : Bs) : digest (mixN ((l.drop (64 * (l.length / 64)) ++ padding (l.drop (64 * (l.length / 64))).length l.length).length / 64) (mixN (l.length / 64) start l) (l.drop (64 * (l.length / 64)) ++ padding (l.drop (64 * (l.length / 64))).length l.length)) = sha l := by
  unfold sha
  congr 1
  have hd : (l.drop (64 * (l.length / 64))).length = l.length % 64 := by rw [List.length_drop]; omega
  have hp : padding (l.drop (64 * (l.length / 64))).length l.length = padding l.length l.length := by
    unfold padding; rw [hd, Nat.mod_mod]
  rw [hp]
  have e1 : l.drop (64 * (l.length / 64)) ++ padding l.length l.length = (pad l).drop (64 * (l.length / 64)) := by
    unfold pad; rw [List.drop_append_of_le_length (by omega)]
  have e2 : mixN (l.length / 64) start l = mixN (l.length / 64) start (pad l) := by
    unfold pad; rw [mixN_pre _ _ _ _ (by omega)]
  have e3 : (pad l).length / 64 = l.length / 64 + ((pad l).drop (64 * (l.length / 64))).length / 64 := by
    have : l.length ≤ (pad l).length := by unfold pad; rw [List.length_append]; omega
    rw [List.length_drop]; omega
  rw [e1, e2, e3, mixN_add]
end Sp
set_option maxRecDepth 100000 in
set_option maxHeartbeats 4000000 in
theorem sha_calls (l : Sp.Bs) (w : World) (hl : l.length ≤ 4000000000) (K : KeysAt w 2) :
    Calls Tryz.prog 262 #[.string (strOf l)] w fun e w' => e = .returned (digV (Sp.sha l)) ∧ Ext w w' := by
  have FF := Lib.hid (Sp.sha_split l)
  have hds := digC_size (Sp.sha l)
  have hsl := Sp.sha_len l
  obtain ⟨arr, ha⟩ : ∃ arr, arr = digC (Sp.sha l) := ⟨_, rfl⟩
  have HA := Lib.hid ha
  rw [← ha] at hds
  have w1 : arr.all (·.oneCell') = true := by rw [ha]; exact all_oneCell_toArray (bytes_one _)
  clear ha
  have tok2 : True := trivial
  rw [show digV (Sp.sha l) = .agg (digC (Sp.sha l)) from rfl, ← HA.out]
  go_enter Tryz.func262, Tryz.ntmps262
  go_wp2_with (have _t2 := tok2; ((with_reducible refine at_alloc (t := 36) rfl ?_); refine box_new rfl (cs := zero32) (t := 36) (by first | (go_simp; done) | (go_simp; rfl)) ?_; intro g2 w2 hg2 hx2 hb2; have H2 := Lib.hid hx2; have B2 := Lib.hid hb2; have GG2 := Lib.hid hg2; clear tok2 _t2 hx2 hb2 hg2))
  have K2 := K.ext (Ext.trans B2.out (Ext.alloc w2 (.cells #[.bool false, .int .u32 0, .int .u32 0, .int .u32 0, .int .u32 0, .int .u32 0, .int .u32 0, .int .u32 0, .int .u32 0, .slice none 0 0, .int .u64 0] 325)))
  refine (swrite_calls w2.heap.size l _ hl K2 (box_at w2 _ _)).mono ?_
  rintro e w3 ⟨rfl, hs3, ho3⟩
  have E3 := Lib.hid (Ext.from' (Ext.trans B2.out (Ext.alloc w2 _)) (ho3.below (show w.heap.size ≤ w2.heap.size from B2.out.size) (by have := B2.out.size; simp; omega)))
  have K3 := K.ext E3.out
  have H3 := Lib.hid (ho3.blk (H2.out.alloc _) (Nat.ne_of_lt H2.out.lt))
  have SV := Lib.hid (svalue_calls w2.heap.size _ _ l.length w3 (Sp.mixN_len _ _ _ rfl) (by rw [List.length_drop]; omega) (by omega) K3 hs3)
  rw [FF.out, ← HA.out] at SV
  clear hs3 ho3 K2 K3
  go_wp2_with fail
  refine SV.out.mono ?_
  rintro e w4 ⟨rfl, hb4⟩
  have H4 := Lib.hid (H3.out.below hb4)
  have E4 := Lib.hid (E3.out.trans hb4)
  clear hb4
  go_wp2_with ((with_reducible refine at_store (t := 36) rfl ?_); refine wpList_store_row rfl _ _ _ rfl g2 arr rfl rfl 36 _ H4.out (by rw [hds, hsl]; kernel_rfl) (by rw [hds, hsl]; rfl) w1 ?_)
  refine bodyPost_ret (results_cell_row rfl _ _ g2 36 arr (0, 0) _ rfl (setRow_heap _ _ _ _ _ _ H4.out) Tryz.underlying36 rfl (by rw [hds, hsl]; kernel_rfl)) rfl ?_
  exact ⟨rfl, below_setRow E4.out (by have := GG2.out; omega) _⟩
end Go.Proofs.YtmlfnidckfeebaaGreatDoor
namespace Go.Proofs.YtmlfnidckfeebaaGreatDoor
open Go.RowKit
def OwnT (w : World) (base : Nat) (e : TypeId) (v : Value) (n : Nat) (xs : List Value) : Prop :=
  xs.length = n ∧ ∃ g cap cur fz, v = .slice (some ⟨g, 0, none⟩) n cap ∧ base ≤ g ∧ w.heap[g]? = some (.cells cur e fz) ∧ (cur.size ≤ fz.1 ∨ fz.2 = 0) ∧ n ≤ cap ∧ cap ≤ maxLen ∧ cur.size = cap ∧ cur.toList.take n = xs
section
variable {P : Program} {ops : Array Oper} {rest : List Oper} {o : Oper} {a : Act} {Q : Exit → Act → World → Prop} {w : World}
end
theorem OwnT.read {w : World} {base n : Nat} {e : TypeId} {v : Value} {xs : List Value} (h : OwnT w base e v n xs) : ∃ A cap, v = .slice A n cap ∧ n ≤ cap ∧ cap ≤ maxLen ∧ Cells w A xs ∧ OwnT w base e (.slice A n cap) n xs := by
  obtain ⟨hl, g, cap, cur, fz, rfl, hbg, hg, hfz, hnc, hcm, hcs, htake⟩ := h
  refine ⟨_, cap, rfl, hnc, hcm, fun _ => ⟨g, 0, rfl, fun j u hu => ?_⟩, hl, g, cap, cur, fz, rfl, hbg, hg, hfz, hnc, hcm, hcs, htake⟩
  rw [cell_of_row w g (0 + j) cur e fz hg]
  rw [← htake, List.getElem?_take] at hu
  split at hu
  · simpa using hu
  · cases hu
end Go.Proofs.YtmlfnidckfeebaaGreatDoor
namespace Go.Proofs.YtmlfnidckfeebaaGreatDoor
open Go.RowKit Go.Shelf
attribute [local go_sem] yUpon strOf_toList
theorem egn1 : ∀ args w, (callFunc 310 args).run Tryz.prog w = .ok (.enter 310 args) w := enters_of Tryz.func310 (by kernel_rfl) rfl
theorem egn2 : ∀ args w, (callFunc 311 args).run Tryz.prog w = .ok (.enter 311 args) w := enters_of Tryz.func311 (by kernel_rfl) rfl
abbrev nodeA (A : Option Addr) (n cap : Nat) (B : Option Addr) (m cap' : Nat) : Array Value := #[.slice A n cap, .slice B m cap']
set_option maxRecDepth 100000 in
set_option maxHeartbeats 4000000 in
theorem nc1_calls (n : Sp.Node) (A B : Option Addr) (cap cap' g : Nat) (w : World) (hV : Vers w A n.1) (hx : isBlk w g 116 (nodeA A n.1.length cap B n.2.length cap')) :
    Calls Tryz.prog 310 #[.pointer (some ⟨g, 0, none⟩)] w fun e w' => e = .returned (.int .i64 (Sp.leaf n.1)) ∧ Ext w w' := by
  have f0 := (hx.cell 0).trans rfl
  have C := Lib.hid (leaf_calls n.1 A cap w hV)
  go_enter Tryz.func310, Tryz.ntmps310
  go_wp2_with fail
  refine C.out.mono ?_
  rintro e w1 ⟨rfl, hb⟩
  go_wp2
  go_ret
  exact ⟨rfl, hb⟩
set_option maxRecDepth 100000 in
set_option maxHeartbeats 4000000 in
theorem nc2_calls (n : Sp.Node) (A B : Option Addr) (cap cap' g : Nat) (w : World) (hK : Kids w B n.2) (hx : isBlk w g 116 (nodeA A n.1.length cap B n.2.length cap')) :
    Calls Tryz.prog 311 #[.pointer (some ⟨g, 0, none⟩)] w fun e w' => e = .returned (.int .i64 (Sp.kcheck n.2)) ∧ Ext w w' := by
  have f0 := (hx.cell 1).trans rfl
  have C := Lib.hid (kids_calls n.2 B cap' w hK)
  go_enter Tryz.func311, Tryz.ntmps311
  go_wp2_with fail
  refine C.out.mono ?_
  rintro e w1 ⟨rfl, hb⟩
  go_wp2
  go_ret
  exact ⟨rfl, hb⟩
set_option maxRecDepth 100000 in
set_option maxHeartbeats 4000000 in
theorem nfirst_calls (n : Sp.Node) (A B : Option Addr) (cap cap' g s : Nat) (w : World) (hV : Vers w A n.1) (hK : Kids w B n.2) (hx : isBlk w g 116 (nodeA A n.1.length cap B n.2.length cap'))
    (h0 : w.cell? ⟨s, 0, none⟩ = some (.func (.func 310) #[] #[.pointer (some ⟨g, 0, none⟩)]))
    (h1 : w.cell? ⟨s, 1, none⟩ = some (.func (.func 311) #[] #[.pointer (some ⟨g, 0, none⟩)])) :
    Calls Tryz.prog 309 #[.slice (some ⟨s, 0, none⟩) 2 2] w fun e w' => e = .returned (.int .i64 (Sp.ncheck n)) ∧ Ext w w' := by
  have eg1 := egn1
  have eg2 := egn2
  go_enter Tryz.func309, Tryz.ntmps309
  go_wp2
  go_loopw [8] (fun v8 wr => ∃ k : Nat, k ≤ 2 ∧ v8 = .int .i64 k ∧ Ext w wr ∧ (0 < k → Sp.leaf n.1 = 0) ∧ (1 < k → Sp.kcheck n.2 = 0)) (fun v8 _ => 2 - (intOf v8).toNat)
  case atStart => exact ⟨0, by decide, rfl, Ext.refl _, fun h => by omega, fun h => by omega⟩
  case round =>
    obtain ⟨k, hk, rfl, hb, hl, hkk⟩ := hrel
    rcases k with _ | _ | _ | k
    · rw [show ((0 : Nat) : Int) = 0 from rfl]
      have c0 := hb.cell h0
      have C := Lib.hid (nc1_calls n A B cap cap' g wr (hV.ext hb) (hx.below hb))
      have HB := Lib.hid hb
      clear hb hl hkk
      go_wp2_with fail
      refine C.out.mono ?_
      rintro e w1 ⟨rfl, hb1⟩
      by_cases hz : Sp.leaf n.1 = 0
      · rw [hz]
        go_wp2
        refine ⟨⟨1, by omega, rfl, HB.out.trans hb1, fun _ => hz, fun h => by omega⟩, by simp [intOf]⟩
      · have F := Lib.hid (show Sp.ncheck n = Sp.leaf n.1 from if_pos hz)
        go_wp2
        go_ret
        exact ⟨ret_int F.out.symm, HB.out.trans hb1⟩
    · rw [show ((0 + 1 : Nat) : Int) = 1 from rfl]
      have hz := hl (by omega)
      have c0 := hb.cell h1
      have C := Lib.hid (nc2_calls n A B cap cap' g wr (hK.ext hb) (hx.below hb))
      have HB := Lib.hid hb
      clear hb hl hkk
      have F := Lib.hid (show Sp.ncheck n = Sp.kcheck n.2 from if_neg (by simpa using hz))
      go_wp2_with fail
      refine C.out.mono ?_
      rintro e w1 ⟨rfl, hb1⟩
      by_cases hy : Sp.kcheck n.2 = 0
      · rw [hy]
        go_wp2
        refine ⟨⟨2, by omega, rfl, HB.out.trans hb1, fun _ => hz, fun _ => hy⟩, by simp [intOf]⟩
      · go_wp2
        go_ret
        exact ⟨ret_int F.out.symm, HB.out.trans hb1⟩
    · rw [show ((0 + 1 + 1 : Nat) : Int) = 2 from rfl]
      have F := Lib.hid (show Sp.ncheck n = 0 by unfold Sp.ncheck; rw [if_neg (by rw [hl (by omega)]; simp), hkk (by omega)])
      go_wp2
      go_ret
      exact ⟨ret_int F.out.symm, hb⟩
    · omega
set_option maxRecDepth 100000 in
set_option maxHeartbeats 4000000 in
theorem ncheck_calls (n : Sp.Node) (A B : Option Addr) (cap cap' : Nat) (w : World) (hV : Vers w A n.1) (hK : Kids w B n.2) :
    Calls Tryz.prog 288 #[nodeV A n.1.length cap B n.2.length cap'] w fun e w' => e = .returned (.int .i64 (Sp.ncheck n)) ∧ Ext w w' := by
  obtain ⟨W0, hW0⟩ : ∃ W0, W0 = w.alloc (.cells (nodeA A n.1.length cap B n.2.length cap') 116) := ⟨_, rfl⟩
  have E0 := Lib.hid (show Ext w W0 by rw [hW0]; exact Ext.alloc _ _)
  have X0 := Lib.hid (show isBlk W0 w.heap.size 116 (nodeA A n.1.length cap B n.2.length cap') by rw [hW0]; exact box_at _ _ _)
  have HW := Lib.hid hW0.symm
  have SZ := Lib.hid (show W0.heap.size = w.heap.size + 1 by rw [hW0]; simp)
  clear hW0
  go_enter Tryz.func288, Tryz.ntmps288
  go_wp2_with fail
  have X1 := X0.out.below (Ext.alloc W0 (.cells #[.func (.func 310) #[] #[.pointer (some ⟨w.heap.size, 0, none⟩)], .func (.func 311) #[] #[.pointer (some ⟨w.heap.size, 0, none⟩)]] 252))
  have Y1 := box_at W0 #[.func (.func 310) #[] #[.pointer (some ⟨w.heap.size, 0, none⟩)], .func (.func 311) #[] #[.pointer (some ⟨w.heap.size, 0, none⟩)]] 252
  have E1 := Lib.hid (E0.out.trans (Ext.alloc W0 (.cells #[.func (.func 310) #[] #[.pointer (some ⟨w.heap.size, 0, none⟩)], .func (.func 311) #[] #[.pointer (some ⟨w.heap.size, 0, none⟩)]] 252)))
  rw [HW.out]
  rw [SZ.out] at Y1
  refine (nfirst_calls n A B cap cap' w.heap.size (w.heap.size + 1) _ (hV.ext E1.out) (hK.ext E1.out) X1 ((Y1.cell 0).trans rfl) ((Y1.cell 1).trans rfl)).mono ?_
  rintro e w2 ⟨rfl, hb2⟩
  go_wp2
  go_ret
  exact ⟨rfl, E1.out.trans hb2⟩
set_option maxRecDepth 100000 in
set_option maxHeartbeats 4000000 in
theorem nbytes_calls (n : Sp.Node) (A B : Option Addr) (cap cap' : Nat) (w : World) (hV : Vers w A n.1) (hK : Kids w B n.2) :
    Calls Tryz.prog 261 #[nodeV A n.1.length cap B n.2.length cap'] w fun e w' => e = .returned (.tuple #[.string (strOf (Sp.nbytes n).1), .int .i64 (Sp.nbytes n).2]) ∧ Ext w w' := by
  obtain ⟨W0, hW0⟩ : ∃ W0, W0 = w.alloc (.cells (nodeA A n.1.length cap B n.2.length cap') 116) := ⟨_, rfl⟩
  have E0 := Lib.hid (show Ext w W0 by rw [hW0]; exact Ext.alloc _ _)
  obtain ⟨g0, hg0⟩ : ∃ g0, g0 = w.heap.size := ⟨_, rfl⟩
  have X0 := Lib.hid (show isBlk W0 g0 116 (nodeA A n.1.length cap B n.2.length cap') by rw [hW0, hg0]; exact box_at _ _ _)
  have HW := Lib.hid hW0.symm
  have CK := Lib.hid (ncheck_calls n A B cap cap' W0 (hV.ext E0.out) (hK.ext E0.out))
  clear hW0
  go_enter Tryz.func261, Tryz.ntmps261
  go_wp2_with fail
  rw [HW.out, ← hg0]
  clear hg0
  refine CK.out.mono ?_
  rintro e W1 ⟨rfl, hb1⟩
  have E1 := Lib.hid (E0.out.trans hb1)
  have X1 := Lib.hid (X0.out.below hb1)
  have V1 := Lib.hid (hV.ext E1.out)
  have K1 := Lib.hid (hK.ext E1.out)
  clear hb1 hV hK
  by_cases hc : Sp.ncheck n = 0
  · rw [hc]
    have NB := Lib.hid (show Sp.nbytes n = Sp.wdone (Sp.wnode n) from if_neg (by simpa using hc))
    obtain ⟨hleaf, hk128, hkgo⟩ := Sp.ncheck_ok hc
    have Y0 := Lib.hid (show IsWr W1.heap.size W1.heap.size ([], 0) (W1.alloc (.cells #[.pointer none, .slice none 0 0, .int .i64 0] 176)) from
      ⟨Nat.le_refl _, .pointer none, .slice none 0 0, .inl rfl, heap_alloc_new _ _, World.ownsRow_nil _ _ _ _, by simp [Value.ownBlock]⟩)
    have f0 := ((X1.out.alloc (.cells #[.pointer none, .slice none 0 0, .int .i64 0] 176)).cell 0).trans rfl
    go_wp2_with fail
    refine (putleaf_calls W1 W1.heap.size ([], 0) n.1 A cap _ (Ext.alloc _ _) Y0.out V1.out (by simp)).mono ?_
    rintro e w2 ⟨rfl, t2⟩
    have B2 := Lib.hid (t2.ext (Ext.alloc _ _))
    have L2 := Lib.hid (Sp.wleaf_len n.1 ([], 0))
    have f1 := ((X1.out.below B2.out).cell 1).trans rfl
    have W2 := Lib.hid t2.wr
    clear t2 f0
    go_wp2_with fail
    refine (wnum_calls W1.heap.size W1.heap.size _ (n.2.length : Int) w2 W2.out (by have := L2.out; simp at this; omega) B2.out.size).mono ?_
    rintro e w3 ⟨rfl, hw3, hb3, _, hs3⟩
    have B3 := Lib.hid (show Below W1.heap.size W1 w3 from hb3.from B2.out)
    have f1 := ((X1.out.below B3.out).cell 1).trans rfl
    obtain ⟨x0, hx0⟩ : ∃ x0, x0 = Sp.wnum n.2.length (Sp.wleaf n.1 ([], 0)) := ⟨_, rfl⟩
    have L3 := Lib.hid (show x0.1.length ≤ 50000 by
      have h1 := Sp.wnum_len (n.2.length : Int) (Sp.wleaf n.1 ([], 0)); have h2 := L2.out; rw [hx0]; simp at h2; omega)
    rw [← hx0] at hw3
    have W3 := Lib.hid hw3
    have NN := Lib.hid (show Sp.wnode n = Sp.wkids n.2 x0 by rw [hx0]; rfl)
    have NS := Lib.hid (Sp.wnode_some n)
    obtain ⟨l, hl⟩ : ∃ l, l = n.2 := ⟨_, rfl⟩
    rw [← hl] at NN K1 hk128 f1 X1 ⊢
    clear hb3 hw3 hx0 hl B2 W2 hs3
    go_wp2_with fail
    clear f1
    obtain ⟨B, hB⟩ : ∃ B, B = W1.heap.size := ⟨_, rfl⟩
    rw [← hB] at W3 B3 ⊢
    have HBB := Lib.hid hB
    clear hB
    go_loopw [27] (fun v27 wr => ∃ k : Nat, k ≤ l.length ∧ v27 = .int .i64 k ∧ IsWr B B (Sp.wkids (l.take k) x0) wr ∧ Below B W1 wr) (fun v27 _ => l.length - (intOf v27).toNat)
    case atStart => exact ⟨0, Nat.zero_le _, rfl, W3.out, B3.out⟩
    case round =>
      obtain ⟨k, hk, rfl, hw, hb⟩ := hrel
      have hb' : Ext W1 wr := by have := hb; rwa [HBB.out] at this
      by_cases hlt : k < l.length
      · obtain ⟨g, o, rfl, hat⟩ := (K1.out.ext hb').at (Nat.lt_of_le_of_lt (Nat.zero_le _) hlt)
        have hok := K1.out.2 l[k] (List.getElem_mem hlt)
        have hR := hat k hlt
        have tk := List.take_succ_eq_append_getElem hlt
        have LK := Sp.wkids_len 1000000 32 (l.take k) x0 (fun j hj => by have := K1.out.2 j (List.mem_of_mem_take hj); omega)
        rw [List.length_take, Nat.min_eq_left hk] at LK
        have LK' := Lib.hid (show (Sp.wkids (l.take k) x0).1.length ≤ 1000000000 by
          have := L3.out
          have : k * (1000000 + 32 + 20) ≤ 128 * (1000000 + 32 + 20) := Nat.mul_le_mul_right _ (by omega)
          omega)
        obtain ⟨kd, hkd⟩ : ∃ kd, kd = l[k] := ⟨_, rfl⟩
        rw [← hkd] at hok hR tk
        have HR := Lib.hid hR
        have TK := Lib.hid (show Sp.wkids (l.take (k + 1)) x0 = Sp.wkid kd (Sp.wkids (l.take k) x0) by rw [tk, Sp.wkids_snoc])
        obtain ⟨xk, hxk⟩ : ∃ xk, xk = Sp.wkids (l.take k) x0 := ⟨_, rfl⟩
        rw [← hxk] at hw TK LK'
        have KL := kidL_len kd hok.1
        have ka : ((kidL kd).toArray).size = 33 := by simp [KL]
        have k0 : ((kidL kd).toArray)[0]? = some (.string (strOf kd.1)) := rfl
        have HWR := Lib.hid hw
        have HB := Lib.hid hb
        have HB' := Lib.hid hb'
        clear hR hb hat hkd hw tk LK hxk hb'
        have tok2 : True := trivial
        have tok3 : True := trivial
        have tok4 : True := trivial
        go_wp2_with (first
          | (have _t2 := tok2; (with_reducible refine at_load (t := 268) rfl ?_); refine wpList_load_mid rfl _ _ rfl g (o + k * 33) rfl (kidL kd) _ HR.out Tryz.underlying268 rfl (by rw [KL]; kernel_rfl) ?_; clear tok2 _t2)
          | (have _t3 := tok3; ((with_reducible refine at_alloc (t := 268) rfl ?_); refine box_new rfl (cs := kid0) (t := 268) (by first | (go_simp; done) | (go_simp; rfl)) ?_; intro g4 w4 hg4 hx4 hb4; have H4 := Lib.hid hx4; have B4 := Lib.hid hb4; have GG4 := Lib.hid hg4; clear tok3 _t3 hx4 hb4 hg4))
          | (have _t4 := tok4; ((with_reducible refine at_store (t := 268) rfl ?_); refine wpList_store_row rfl _ _ _ rfl g4 (kidL kd).toArray rfl rfl 268 _ H4.out (by rw [ka]; kernel_rfl) (by rw [ka]; rfl) (kid_one kd) ?_; obtain ⟨w5, hw5⟩ : ∃ w5, w5 = w4.setRow g4 (kidL kd).toArray := ⟨_, rfl⟩; rw [← hw5]; have B5 := Lib.hid (show Ext wr w5 by rw [hw5]; exact below_setRow B4.out GG4.out _); have X5 := Lib.hid (show isBlk w5 g4 268 (kidL kd).toArray by rw [hw5]; exact setRow_heap _ _ _ _ _ _ H4.out); have f0 := (X5.out.cell 0).trans k0; clear hw5 tok4 _t4)))
        have S5 := Lib.hid (show B ≤ w5.heap.size by have := B5.out.size; have := HB.out.size; have := HBB.out; omega)
        refine (wtext_calls B B xk (strOf kd.1) w5 (HWR.out.below B5.out) (by have := LK'.out; omega) (by rw [strOf_size]; omega) S5.out).mono ?_
        rintro e w6 ⟨rfl, hw6, hb6, hk6, hs6⟩
        rw [strOf_data] at hw6
        have W6 := Lib.hid hw6
        have X6 := Lib.hid (hk6 _ _ _ X5.out (by decide) (by decide))
        have S6 := Lib.hid (Nat.le_trans S5.out hs6)
        have B6 := Lib.hid (HB.out.trans ((B5.out.mono (by have := HB.out.size; have := HBB.out; omega)).trans hb6))
        have L6 := Lib.hid (show (Sp.wtext kd.1 xk).1.length ≤ 1000000000000 by have := Sp.wtext_len kd.1 xk; have := LK'.out; omega)
        have D6 := Lib.hid (X6.out.rangeAt 1 (kd.2.map byteV) (fun j v hv => by
          rw [List.getElem?_toArray]
          unfold kidL
          rw [Nat.add_comm 1 j, List.getElem?_cons_succ]; exact hv))
        clear hw6 hb6 hk6 hs6 f0
        go_wp2_with ((with_reducible refine at_load (t := 36) rfl ?_); refine wpList_load_mid rfl _ _ rfl g4 1 rfl (kd.2.map byteV) _ D6.out Tryz.underlying36 rfl (by rw [List.length_map, hok.1]; kernel_rfl) ?_)
        refine (wdigest_calls B B _ kd.2 w6 hok.1 W6.out (by have := L6.out; omega) S6.out).mono ?_
        rintro e w7 ⟨rfl, t7⟩
        go_wp2
        go_roundw
        case rel => exact ⟨k + 1, by omega, by go_num, by rw [TK.out]; exact t7.wr, B6.out.trans t7.below⟩
        case measure => simp [intOf]; omega
      · obtain rfl : k = l.length := by omega
        rw [List.take_length, ← NN.out] at hw
        have DN := Lib.hid (wdone_calls B B (Sp.wnode n) wr hw NS.out)
        have HB' := Lib.hid hb'
        clear hw hb
        go_wp2_with fail
        refine DN.out.mono ?_
        rintro e w8 ⟨rfl, hb8⟩
        go_wp2
        go_ret2
        rw [NB.out]
        rw [HBB.out] at hb8
        exact ⟨rfl, E1.out.trans (hb8.from HB'.out)⟩
  · have NB := Lib.hid (show Sp.nbytes n = ([], Sp.ncheck n) from if_pos (by simpa using hc))
    go_wp2
    go_ret2
    rw [NB.out]
    exact ⟨rfl, E1.out⟩
end Go.Proofs.YtmlfnidckfeebaaGreatDoor
namespace Go.Proofs.YtmlfnidckfeebaaGreatDoor
open Go.RowKit Go.Shelf
attribute [local go_sem] yUpon strOf_toList
theorem isRW.below {w w1 : World} {g : Nat} {x : Sp.W} (h : isRW w g x) (hb : Below w.heap.size w w1) : isRW w1 g x := isBlk.below h hb
end Go.Proofs.YtmlfnidckfeebaaGreatDoor
namespace Go.Proofs.YtmlfnidckfeebaaGreatDoor
open Go.RowKit Go.Shelf
attribute [local go_sem] yUpon strOf_toList
theorem Sp.nbytes_len (n : Sp.Node) (h : KidsOk n.2) (_hc : (Sp.nbytes n).2 = 0) : (Sp.nbytes n).1.length ≤ 4000000000 := by
  unfold Sp.nbytes at *
  by_cases h0 : Sp.ncheck n = 0
  · rw [if_neg (by simpa using h0)] at *
    obtain ⟨_, h2, _⟩ := Sp.ncheck_ok h0
    have h1 := Sp.wleaf_len n.1 ([], 0)
    have h3 := Sp.wnum_len (n.2.length : Int) (Sp.wleaf n.1 ([], 0))
    have h4 := Sp.wkids_len 1000000 32 n.2 (Sp.wnum n.2.length (Sp.wleaf n.1 ([], 0))) (fun k hk => by have := h k hk; omega)
    have h5 : n.2.length * (1000000 + 32 + 20) ≤ 128 * (1000000 + 32 + 20) := Nat.mul_le_mul_right _ h2
    have h6 : (Sp.wdone (Sp.wnode n)).1.length ≤ (Sp.wnode n).1.length := by unfold Sp.wdone; split <;> simp
    unfold Sp.wnode at *
    simp at h1
    omega
  · rw [if_pos (by simpa using h0)]; simp
set_option maxRecDepth 100000 in
set_option maxHeartbeats 4000000 in
theorem nsum_calls (n : Sp.Node) (A B : Option Addr) (cap cap' : Nat) (w : World) (hV : Vers w A n.1) (hK : Kids w B n.2)  (K : KeysAt w 2) :
    Calls Tryz.prog 219 #[nodeV A n.1.length cap B n.2.length cap'] w fun e w' => e = .returned (digV (Sp.nsum n)) ∧ Ext w w' := by
  have hsl := Sp.nsum_len n
  have hds := digC_size (Sp.nsum n)
  obtain ⟨arr, ha⟩ : ∃ arr, arr = digC (Sp.nsum n) := ⟨_, rfl⟩
  have HA := Lib.hid ha
  rw [← ha] at hds
  have w1 : arr.all (·.oneCell') = true := by rw [ha]; exact all_oneCell_toArray (bytes_one _)
  clear ha
  rw [show digV (Sp.nsum n) = .agg (digC (Sp.nsum n)) from rfl, ← HA.out]
  have tok2 : True := trivial
  obtain ⟨W0, hW0⟩ : ∃ W0, W0 = w.alloc (.cells (nodeA A n.1.length cap B n.2.length cap') 116) := ⟨_, rfl⟩
  have E0 := Lib.hid (show Ext w W0 by rw [hW0]; exact Ext.alloc _ _)
  have X0 := Lib.hid (show isBlk W0 w.heap.size 116 (nodeA A n.1.length cap B n.2.length cap') by rw [hW0]; exact box_at _ _ _)
  have HW := Lib.hid (show w.alloc (.cells #[.slice A n.1.length cap, .slice B n.2.length cap'] 116) = W0 from hW0.symm)
  have SZ := Lib.hid (show W0.heap.size = w.heap.size + 1 by rw [hW0]; simp)
  have CB := Lib.hid fun W (h : Ext W0 W) => nbytes_calls n A B cap cap' W (hV.ext (E0.out.trans h)) (hK.ext (E0.out.trans h)) 
  clear hW0
  go_enter Tryz.func219, Tryz.ntmps219
  go_wp2_with (have _t2 := tok2; ((with_reducible refine at_alloc (t := 36) rfl ?_); refine box_new rfl (cs := zero32) (t := 36) (by first | (go_simp; done) | (go_simp; rfl)) ?_; intro g2 w2 hg2 hx2 hb2; rw [HW.out] at hb2 hg2; have f0 := ((X0.out.below hb2).cell 0).trans rfl; have f1 := ((X0.out.below hb2).cell 1).trans rfl; have H2 := Lib.hid hx2; have B2 := Lib.hid hb2; have GG2 := Lib.hid hg2; clear tok2 _t2 hx2 hb2 hg2))
  refine (CB.out _ B2.out).mono ?_
  rintro e w3 ⟨rfl, hb3⟩
  have H3 := Lib.hid (H2.out.below hb3)
  have E3 := Lib.hid (E0.out.trans (Ext.trans B2.out hb3))
  clear hb3 f0 f1
  by_cases hc : (Sp.nbytes n).2 = 0
  · rw [hc]
    have F := Lib.hid (show Sp.sha (Sp.nbytes n).1 = Sp.nsum n from (if_neg (by simpa using hc)).symm)
    have hlen : (Sp.nbytes n).1.length ≤ 4000000000 := Sp.nbytes_len n hK.2 hc
    have SO := Lib.hid (sha_calls (Sp.nbytes n).1 w3 hlen (K.ext E3.out))
    rw [F.out, show digV (Sp.nsum n) = .agg (digC (Sp.nsum n)) from rfl, ← HA.out] at SO
    go_wp2_with fail
    refine SO.out.mono ?_
    rintro e w4 ⟨rfl, hb4⟩
    have H4 := Lib.hid (H3.out.below hb4)
    have E4 := Lib.hid (E3.out.trans hb4)
    clear hb4
    go_wp2_with ((with_reducible refine at_store (t := 36) rfl ?_); refine wpList_store_row rfl _ _ _ rfl g2 arr rfl rfl 36 _ H4.out (by rw [hds, hsl]; kernel_rfl) (by rw [hds, hsl]; rfl) w1 ?_)
    refine bodyPost_ret (results_cell_row rfl _ _ g2 36 arr (0, 0) _ rfl (setRow_heap _ _ _ _ _ _ H4.out) Tryz.underlying36 rfl (by rw [hds, hsl]; kernel_rfl)) rfl ?_
    exact ⟨rfl, below_setRow E4.out (by have := GG2.out; have := SZ.out; omega) _⟩
  · have F := Lib.hid (show arr = zero32 by rw [HA.out, show Sp.nsum n = List.replicate 32 0 from if_pos (by simpa using hc)])
    go_wp2_with ((with_reducible refine at_store (t := 36) rfl ?_); refine wpList_store_row rfl _ _ _ rfl g2 zero32 rfl rfl 36 _ H3.out (by kernel_rfl) (by kernel_rfl) (by kernel_rfl) ?_)
    refine bodyPost_ret (results_cell_row rfl _ _ g2 36 zero32 (0, 0) _ rfl (setRow_heap _ _ _ _ _ _ H3.out) Tryz.underlying36 rfl (by kernel_rfl)) rfl ?_
    exact ⟨by rw [F.out], below_setRow E3.out (by have := GG2.out; have := SZ.out; omega) _⟩
end Go.Proofs.YtmlfnidckfeebaaGreatDoor
namespace Go.Proofs.YtmlfnidckfeebaaGreatDoor
open Go.RowKit Go.Shelf
attribute [local go_sem] yUpon
theorem own_emptyN {k : Nat} (w : World) (B : Nat) (t : TypeId) (h : B ≤ w.heap.size) : (w.alloc (.cells #[] t)).ownsRow B t k (.slice (some ⟨w.heap.size, 0, none⟩) 0 0) 0 [] :=
  World.ownsRow_lit w #[] 0 h (by unfold maxLen; omega) (by simp)
theorem appKid : AppStat Tryz.prog 114 268 33 48 := by
  refine ⟨Tryz.underlying114, by decide, by decide, ?_⟩
  obtain ⟨i0, hi, hz0, hz1, hz2⟩ := info_parts (show (Tryz.prog.info? 268).map (fun i => (i.zero, i.size, i.bytes)) = some (some (.agg kid0), 33, 48) by kernel_rfl)
  exact ⟨i0, _, hi, hz0, hz1, hz2, by kernel_rfl⟩
theorem appDot : AppStat Tryz.prog 69 68 2 16 := by
  refine ⟨Tryz.underlying69, by decide, by decide, ?_⟩
  obtain ⟨i0, hi, hz0, hz1, hz2⟩ := info_parts (show (Tryz.prog.info? 68).map (fun i => (i.zero, i.size, i.bytes)) = some (some (.agg #[.int .i64 0, .int .i64 0]), 2, 16) by kernel_rfl)
  exact ⟨i0, _, hi, hz0, hz1, hz2, rfl⟩
theorem appStr : AppStat Tryz.prog 32 9 1 16 := by
  refine ⟨Tryz.underlying32, by decide, by decide, ?_⟩
  obtain ⟨i0, hi, hz0, hz1, hz2⟩ := info_parts (show (Tryz.prog.info? 9).map (fun i => (i.zero, i.size, i.bytes)) = some (some (.string ⟨#[]⟩), 1, 16) by kernel_rfl)
  exact ⟨i0, _, hi, hz0, hz1, hz2, rfl⟩
theorem appPtr : AppStat Tryz.prog 120 123 1 8 := by
  refine ⟨Tryz.underlying120, by decide, by decide, ?_⟩
  obtain ⟨i0, hi, hz0, hz1, hz2⟩ := info_parts (show (Tryz.prog.info? 123).map (fun i => (i.zero, i.size, i.bytes)) = some (some (.pointer none), 1, 8) by kernel_rfl)
  exact ⟨i0, _, hi, hz0, hz1, hz2, rfl⟩
set_option maxRecDepth 100000 in
set_option maxHeartbeats 2000000 in
theorem cloneKid (cs : List Value) (n cap : Nat) (A : Option Addr) (w : World) (h : Cells w A cs) (hl : cs.length = n * 33) (h1 : ∀ u ∈ cs, u.oneCell' = true) (hn : n ≤ 10000000000) :
    Calls Tryz.prog 263 #[.slice A n cap] w fun e w' => ∃ v, e = .returned v ∧ w'.ownsRow w.heap.size 268 33 v n cs ∧ Ext w w' := by
  have EQ := fun (w : World) (a : Option Addr) (n c : Nat) => Lib.run_eql_slice_nil (P := Tryz.prog) w 114 268 a n c 0 0 Tryz.underlying114
  cases A with
  | none =>
    have hc : cs = [] := Classical.byContradiction fun hc => by obtain ⟨g, o, hA, _⟩ := h hc; cases hA
    subst hc
    have hn0 : n = 0 := by simp at hl; omega
    subst hn0
    go_enter Tryz.func263, Tryz.ntmps263
    go_wp2
    go_ret
    exact ⟨_, rfl, World.ownsRow_nil _ _ _ _, Ext.refl _⟩
  | some a =>
    have HH := Lib.hid h
    clear h
    have tok4 : True := trivial
    go_enter Tryz.func263, Tryz.ntmps263
    go_wp2_with (have _t4 := tok4; at_builtin; refine app_cells appKid rfl _ _ rfl w.heap.size _ 0 [] rfl (own_emptyN _ _ _ (Nat.le_refl _)) (some a) n cap cs rfl (by omega) (HH.out.ext (Ext.alloc _ _)) h1 (by omega) (by simp) ?_; intro v4 w4 hown4 hgr4 hb4; rw [Nat.zero_add, List.nil_append] at hown4; have HO := Lib.hid hown4; have HB := Lib.hid hb4; clear hown4 hgr4 hb4 tok4 _t4)
    go_ret
    exact ⟨_, rfl, HO.out, HB.out.from (Ext.alloc _ _)⟩
set_option maxRecDepth 100000 in
set_option maxHeartbeats 2000000 in
theorem cloneVer (cs : List Value) (n cap : Nat) (A : Option Addr) (w : World) (h : Cells w A cs) (hl : cs.length = n * 5) (h1 : ∀ u ∈ cs, u.oneCell' = true) (hn : n ≤ 10000000000) :
    Calls Tryz.prog 153 #[.slice A n cap] w fun e w' => ∃ v, e = .returned v ∧ w'.ownsRow w.heap.size 71 5 v n cs ∧ Ext w w' := by
  have EQ := fun (w : World) (a : Option Addr) (n c : Nat) => Lib.run_eql_slice_nil (P := Tryz.prog) w 41 71 a n c 0 0 Tryz.underlying41
  cases A with
  | none =>
    have hc : cs = [] := Classical.byContradiction fun hc => by obtain ⟨g, o, hA, _⟩ := h hc; cases hA
    subst hc
    have hn0 : n = 0 := by simp at hl; omega
    subst hn0
    go_enter Tryz.func153, Tryz.ntmps153
    go_wp2
    go_ret
    exact ⟨_, rfl, World.ownsRow_nil _ _ _ _, Ext.refl _⟩
  | some a =>
    have HH := Lib.hid h
    clear h
    have tok4 : True := trivial
    go_enter Tryz.func153, Tryz.ntmps153
    go_wp2_with (have _t4 := tok4; at_builtin; refine app_cells appVer rfl _ _ rfl w.heap.size _ 0 [] rfl (own_emptyN _ _ _ (Nat.le_refl _)) (some a) n cap cs rfl (by omega) (HH.out.ext (Ext.alloc _ _)) h1 (by omega) (by simp) ?_; intro v4 w4 hown4 hgr4 hb4; rw [Nat.zero_add, List.nil_append] at hown4; have HO := Lib.hid hown4; have HB := Lib.hid hb4; clear hown4 hgr4 hb4 tok4 _t4)
    go_ret
    exact ⟨_, rfl, HO.out, HB.out.from (Ext.alloc _ _)⟩
set_option maxRecDepth 100000 in
set_option maxHeartbeats 2000000 in
theorem cloneDot (cs : List Value) (n cap : Nat) (A : Option Addr) (w : World) (h : Cells w A cs) (hl : cs.length = n * 2) (h1 : ∀ u ∈ cs, u.oneCell' = true) (hn : n ≤ 10000000000) :
    Calls Tryz.prog 154 #[.slice A n cap] w fun e w' => ∃ v, e = .returned v ∧ w'.ownsRow w.heap.size 68 2 v n cs ∧ Ext w w' := by
  have EQ := fun (w : World) (a : Option Addr) (n c : Nat) => Lib.run_eql_slice_nil (P := Tryz.prog) w 69 68 a n c 0 0 Tryz.underlying69
  cases A with
  | none =>
    have hc : cs = [] := Classical.byContradiction fun hc => by obtain ⟨g, o, hA, _⟩ := h hc; cases hA
    subst hc
    have hn0 : n = 0 := by simp at hl; omega
    subst hn0
    go_enter Tryz.func154, Tryz.ntmps154
    go_wp2
    go_ret
    exact ⟨_, rfl, World.ownsRow_nil _ _ _ _, Ext.refl _⟩
  | some a =>
    have HH := Lib.hid h
    clear h
    have tok4 : True := trivial
    go_enter Tryz.func154, Tryz.ntmps154
    go_wp2_with (have _t4 := tok4; at_builtin; refine app_cells appDot rfl _ _ rfl w.heap.size _ 0 [] rfl (own_emptyN _ _ _ (Nat.le_refl _)) (some a) n cap cs rfl (by omega) (HH.out.ext (Ext.alloc _ _)) h1 (by omega) (by simp) ?_; intro v4 w4 hown4 hgr4 hb4; rw [Nat.zero_add, List.nil_append] at hown4; have HO := Lib.hid hown4; have HB := Lib.hid hb4; clear hown4 hgr4 hb4 tok4 _t4)
    go_ret
    exact ⟨_, rfl, HO.out, HB.out.from (Ext.alloc _ _)⟩
set_option maxRecDepth 100000 in
set_option maxHeartbeats 2000000 in
theorem cloneStr (cs : List Value) (n cap : Nat) (A : Option Addr) (w : World) (h : Cells w A cs) (hl : cs.length = n * 1) (h1 : ∀ u ∈ cs, u.oneCell' = true) (hn : n ≤ 10000000000) :
    Calls Tryz.prog 173 #[.slice A n cap] w fun e w' => ∃ v, e = .returned v ∧ w'.ownsRow w.heap.size 9 1 v n cs ∧ Ext w w' := by
  have EQ := fun (w : World) (a : Option Addr) (n c : Nat) => Lib.run_eql_slice_nil (P := Tryz.prog) w 32 9 a n c 0 0 Tryz.underlying32
  cases A with
  | none =>
    have hc : cs = [] := Classical.byContradiction fun hc => by obtain ⟨g, o, hA, _⟩ := h hc; cases hA
    subst hc
    have hn0 : n = 0 := by simp at hl; omega
    subst hn0
    go_enter Tryz.func173, Tryz.ntmps173
    go_wp2
    go_ret
    exact ⟨_, rfl, World.ownsRow_nil _ _ _ _, Ext.refl _⟩
  | some a =>
    have HH := Lib.hid h
    clear h
    have tok4 : True := trivial
    go_enter Tryz.func173, Tryz.ntmps173
    go_wp2_with (have _t4 := tok4; at_builtin; refine app_cells appStr rfl _ _ rfl w.heap.size _ 0 [] rfl (own_emptyN _ _ _ (Nat.le_refl _)) (some a) n cap cs rfl (by omega) (HH.out.ext (Ext.alloc _ _)) h1 (by omega) (by simp) ?_; intro v4 w4 hown4 hgr4 hb4; rw [Nat.zero_add, List.nil_append] at hown4; have HO := Lib.hid hown4; have HB := Lib.hid hb4; clear hown4 hgr4 hb4 tok4 _t4)
    go_ret
    exact ⟨_, rfl, HO.out, HB.out.from (Ext.alloc _ _)⟩
set_option maxRecDepth 100000 in
set_option maxHeartbeats 2000000 in
theorem clonePtr (cs : List Value) (n cap : Nat) (A : Option Addr) (w : World) (h : Cells w A cs) (hl : cs.length = n * 1) (h1 : ∀ u ∈ cs, u.oneCell' = true) (hn : n ≤ 10000000000) :
    Calls Tryz.prog 174 #[.slice A n cap] w fun e w' => ∃ v, e = .returned v ∧ w'.ownsRow w.heap.size 123 1 v n cs ∧ Ext w w' := by
  have EQ := fun (w : World) (a : Option Addr) (n c : Nat) => Lib.run_eql_slice_nil (P := Tryz.prog) w 120 123 a n c 0 0 Tryz.underlying120
  cases A with
  | none =>
    have hc : cs = [] := Classical.byContradiction fun hc => by obtain ⟨g, o, hA, _⟩ := h hc; cases hA
    subst hc
    have hn0 : n = 0 := by simp at hl; omega
    subst hn0
    go_enter Tryz.func174, Tryz.ntmps174
    go_wp2
    go_ret
    exact ⟨_, rfl, World.ownsRow_nil _ _ _ _, Ext.refl _⟩
  | some a =>
    have HH := Lib.hid h
    clear h
    have tok4 : True := trivial
    go_enter Tryz.func174, Tryz.ntmps174
    go_wp2_with (have _t4 := tok4; at_builtin; refine app_cells appPtr rfl _ _ rfl w.heap.size _ 0 [] rfl (own_emptyN _ _ _ (Nat.le_refl _)) (some a) n cap cs rfl (by omega) (HH.out.ext (Ext.alloc _ _)) h1 (by omega) (by simp) ?_; intro v4 w4 hown4 hgr4 hb4; rw [Nat.zero_add, List.nil_append] at hown4; have HO := Lib.hid hown4; have HB := Lib.hid hb4; clear hown4 hgr4 hb4 tok4 _t4)
    go_ret
    exact ⟨_, rfl, HO.out, HB.out.from (Ext.alloc _ _)⟩
end Go.Proofs.YtmlfnidckfeebaaGreatDoor
namespace Go.Proofs.YtmlfnidckfeebaaGreatDoor
open Go.RowKit Go.Shelf
attribute [local go_sem] yUpon
theorem step_call {P : Program} {ops : Array Oper} {o : Oper} {a : Act} {w w0 : World} {K : Act → World → Prop} {Q : Exit → Act → World → Prop} {E : Prop} {R : Ending → World → Prop} (hg : o.guard = none) (f : FuncId) (args : Array Value)
    (hrun : (execOp a.eval o).run P w = .ok (.enter f args) w0) (hC : Calls P f args w0 R) (hK : ∀ e w', R e w' → ∃ v, e = .returned v ∧ K (a.put o.dst v) w') :
    if Region.wanted o (yielded ops a.tmps) = true then Oper.wp P o a w K Q else E := by
  have hw : Region.wanted o (yielded ops a.tmps) = true := by simp [Region.wanted, hg]
  rw [if_pos hw]
  unfold Oper.wp
  rw [hrun]
  exact hC.mono (fun e w' h => by obtain ⟨v, rfl, hk⟩ := hK e w' h; exact hk)
def isSl : Value → Bool
  | .slice _ _ _ => true
  | _ => false
theorem Cells.apart {w w' : World} {g : Nat} {t : TypeId} {zs : Array Value} {A : Option Addr} {cs : List Value} (h : Cells w A cs) (e : Only g w w') (hx : isBlk w g t zs) (hs : ∀ z ∈ zs.toList, isSl z = true) (h0 : ∀ u, cs[0]? = some u → isSl u = false) : Cells w' A cs := fun hn => by
  obtain ⟨g1, o, hA, hc⟩ := h hn
  refine Cells.only (w := w) (g := g) (fun _ => ⟨g1, o, hA, hc⟩) (fun a ha => ?_) e hn
  rw [hA] at ha
  cases ha
  show g1 ≠ g
  rintro rfl
  obtain ⟨u, r, rfl⟩ := List.exists_cons_of_ne_nil hn
  have h1 := hc 0 u rfl
  rw [hx.cell (o + 0)] at h1
  have h2 := hs u (by rw [← Array.getElem?_toList] at h1; exact List.mem_of_getElem? h1)
  rw [h0 u rfl] at h2
  cases h2
theorem Vers.apart {w w' : World} {g : Nat} {t : TypeId} {zs : Array Value} {A : Option Addr} {l : List Sp.Ver} (h : Vers w A l) (e : Only g w w') (hx : isBlk w g t zs) (hs : ∀ z ∈ zs.toList, isSl z = true) : Vers w' A l := by
  obtain ⟨m, h1, h2, h3⟩ := h
  refine ⟨m, h1, Cells.apart h2 e hx hs ?_, fun x hm => ⟨Cells.apart (h3 x hm).1 e hx hs ?_, (h3 x hm).2⟩⟩
  · intro u hu
    cases m with
    | nil => cases hu
    | cons x r => cases hu; rfl
  · intro u hu
    cases hp : x.2.2.past with
    | nil => rw [hp] at hu; cases hu
    | cons d r => rw [hp] at hu; cases hu; rfl
theorem Kids.apart {w w' : World} {g : Nat} {t : TypeId} {zs : Array Value} {A : Option Addr} {l : List Sp.Kid} (h : Kids w A l) (e : Only g w w') (hx : isBlk w g t zs) (hs : ∀ z ∈ zs.toList, isSl z = true) : Kids w' A l := by
  refine ⟨Cells.apart h.1 e hx hs ?_, h.2⟩
  intro u hu
  cases l with
  | nil => cases hu
  | cons x r => cases hu; rfl
theorem kids_one : ∀ (l : List Sp.Kid), ∀ u ∈ kidsC l, u.oneCell' = true
  | [], u, h => by cases h
  | k :: r, u, h => by
    rcases List.mem_append.1 h with h | h
    · unfold kidL at h
      rcases List.mem_cons.1 h with rfl | h
      · rfl
      · exact bytes_one _ u h
    · exact kids_one r u h
set_option maxRecDepth 100000 in
set_option maxHeartbeats 4000000 in
theorem nempty_calls (n : Sp.Node) (A B : Option Addr) (cap cap' : Nat) (w : World) :
    Calls Tryz.prog 222 #[nodeV A n.1.length cap B n.2.length cap'] w fun e w' => e = .returned (.bool (decide (n.1 = [] ∧ n.2 = []))) ∧ Ext w w' := by
  go_enter Tryz.func222, Tryz.ntmps222
  by_cases h1 : n.1 = []
  · by_cases h2 : n.2 = []
    · go_wp2
      go_ret
      exact ⟨ret_bool (by simp [h1, h2]), Ext.alloc _ _⟩
    · go_wp2
      go_ret
      exact ⟨ret_bool (by simp [h1, h2]), Ext.alloc _ _⟩
  · have e1 : ((n.1.length : Int) == 0) = false := by rw [beq_eq_false_iff_ne]; intro h; exact h1 (List.eq_nil_of_length_eq_zero (by omega))
    go_wp2
    go_ret
    exact ⟨ret_bool (by simp [h1]), Ext.alloc _ _⟩
set_option maxRecDepth 100000 in
set_option maxHeartbeats 4000000 in
theorem nseen_calls (n : Sp.Node) (A B : Option Addr) (cap cap' : Nat) (w : World) (hV : Vers w A n.1) (hK : Kids w B n.2) (hl : n.1.length ≤ 1000000) (hk : n.2.length ≤ 10000000) :
    Calls Tryz.prog 221 #[nodeV A n.1.length cap B n.2.length cap'] w fun e w' => ∃ A2 c2 B2 c3, e = .returned (nodeV A2 (Sp.live n.1).length c2 B2 n.2.length c3) ∧ Vers w' A2 (Sp.live n.1) ∧ Kids w' B2 n.2 ∧ Ext w w' := by
  obtain ⟨W0, hW0⟩ : ∃ W0, W0 = w.alloc (.cells (nodeA A n.1.length cap B n.2.length cap') 116) := ⟨_, rfl⟩
  have E0 := Lib.hid (show Ext w W0 by rw [hW0]; exact Ext.alloc _ _)
  have X0 := Lib.hid (show isBlk W0 w.heap.size 116 (nodeA A n.1.length cap B n.2.length cap') by rw [hW0]; exact box_at _ _ _)
  have HW := Lib.hid (show w.alloc (.cells #[.slice A n.1.length cap, .slice B n.2.length cap'] 116) = W0 from hW0.symm)
  have SZ := Lib.hid (show W0.heap.size = w.heap.size + 1 by rw [hW0]; simp)
  have LV := Lib.hid fun W (h : Ext W0 W) => live_calls n.1 A cap W (hV.ext (E0.out.trans h)) hl
  have CL := Lib.hid fun W (h : Ext W0 W) => cloneKid (kidsC n.2) n.2.length cap' B W (hK.ext (E0.out.trans h)).1 (kidsC_len n.2 hK.2) (kids_one n.2) (by omega)
  have tok2 : True := trivial
  clear hW0
  go_enter Tryz.func221, Tryz.ntmps221
  go_wp2_with (have _t2 := tok2; ((with_reducible refine at_alloc (t := 116) rfl ?_); refine box_new rfl (cs := #[.slice none 0 0, .slice none 0 0]) (t := 116) (by first | (go_simp; done) | (go_simp; rfl)) ?_; intro g2 w2 hg2 hx2 hb2; rw [HW.out] at hb2 hg2; have H2 := Lib.hid hx2; have B2 := Lib.hid hb2; have GG2 := Lib.hid hg2; clear tok2 _t2 hx2 hb2 hg2))
  have f0 := ((X0.out.below B2.out).cell 0).trans rfl
  have f1 := ((X0.out.below B2.out).cell 1).trans rfl
  have tokL : True := trivial
  go_region_law (first
    | (have _tL := tokL; refine step_call rfl 170 #[.slice A n.1.length cap] (by go_simp) (LV.out _ (show Ext W0 w2 from B2.out).drew) ?_; rintro e w3 ⟨v3, rfl, hO3, hb3⟩; obtain ⟨A2, c2, rfl, hV2⟩ := hO3.read; have B3 := Lib.hid (show Ext w2 w3 from (show Ext w2 w2.drew from (Below.refl _ _).drew).trans hb3); have D3 := Lib.hid hV2; have f1 := ((X0.out.below (Ext.trans B2.out B3.out)).cell 1).trans rfl; clear hO3 hb3 hV2 tokL _tL; refine ⟨_, rfl, ?_⟩)
    | (refine step_call rfl 263 #[.slice B n.2.length cap'] (by go_simp) (CL.out w3 (Ext.trans B2.out B3.out)) ?_; rintro e w4 ⟨v4, rfl, hO4, hb4⟩; obtain ⟨g4, c4, hv4, hK4⟩ := own_read hO4; subst hv4; have B4 := Lib.hid (B3.out.trans hb4); have D4 := Lib.hid (show Kids w4 g4 n.2 from ⟨hK4, hK.2⟩); have V4 := Lib.hid (D3.out.ext hb4); have z := H2.out.below B4.out; have k0 := (z.cell 0).trans rfl; have k1 := (z.cell 1).trans rfl; have k2 := z.frozen 0; have k3 := z.frozen 1; have H4 := Lib.hid z; clear hO4 hb4 hK4 z; refine ⟨_, rfl, ?_⟩))
  all_goals (
    go_wp2
    have hz := (H4.out.put 0 (.slice A2 (Sp.live n.1).length c2) rfl).put 1 (.slice g4 n.2.length c4) rfl
    refine bodyPost_ret (results_cell_row rfl _ _ g2 116 #[.slice A2 (Sp.live n.1).length c2, .slice g4 n.2.length c4] (0, 0) _ rfl hz Tryz.underlying116 rfl (by kernel_rfl)) rfl ?_
    have e1 := (Only.set g2 0 (.slice A2 (Sp.live n.1).length c2) w4).trans (Only.set g2 1 (.slice g4 n.2.length c4) _)
    have hs : ∀ z ∈ (#[.slice none 0 0, .slice none 0 0] : Array Value).toList, isSl z = true := by decide
    have BW := E0.out.trans (Ext.trans B2.out B4.out)
    exact ⟨A2, c2, g4, c4, rfl, V4.out.apart e1 H4.out hs, D4.out.apart e1 H4.out hs, BW.from' (e1.below (by have := GG2.out; have := SZ.out; omega) BW.size)⟩)
end Go.Proofs.YtmlfnidckfeebaaGreatDoor
