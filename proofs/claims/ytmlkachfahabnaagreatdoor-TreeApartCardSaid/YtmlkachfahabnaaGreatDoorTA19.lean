/- Walks: versions and leaves as bytes. Walks: a text's digest. A slice of the call's own whose block bears a mark behind its end ('[]byte(s)'): one cell and one byte an element. -/
import Derived.Test.YtmlkachfahabnaaGreatDoorTA18
import Derived.Test.YtmlkachfahabnaaGreatDoorTA16
import Derived.Lib.FrozenHead
namespace Go.Proofs.YtmlkachfahabnaaGreatDoor
open Go.RowKit Go.Shelf
set_option maxRecDepth 100000 in
set_option maxHeartbeats 4000000 in
theorem putver_calls (w0 : World) (g : Nat) (x : Sp.W) (v : Sp.Ver) (A : Option Addr) (cap : Nat) (w : World) (E : Ext w0 w) (h : IsWr w0.heap.size g x w) (hP : Past w0 A v) (hd : v.data.length ≤ 4000000000) (hlen : x.1.length ≤ 10000000000) :
    Calls Tryz.prog 154 #[.pointer (some ⟨g, 0, none⟩), verV A cap v] w fun e w' => e = .returned (.tuple #[]) ∧ WTo w0.heap.size g (Sp.wver v x) w w' := by
  obtain ⟨W0, hW0⟩ : ∃ W0, W0 = w.alloc (.cells (verC A cap v) 48) := ⟨_, rfl⟩
  have HBX := Lib.hid (show isBlk W0 w.heap.size 48 (verC A cap v) by rw [hW0]; exact box_at _ _ _)
  have E0 := Lib.hid (show Ext w W0 by rw [hW0]; exact Ext.alloc _ _)
  have HW := Lib.hid hW0.symm
  have l1 := Sp.wdot_len v.dot x
  have l2 := Sp.wvec_len v.past (Sp.wdot v.dot x)
  have l3 := Sp.wflag_len v.dead (Sp.wvec v.past (Sp.wdot v.dot x))
  have C1 := Lib.hid (putdot_calls w0.heap.size g x v.dot W0 (h.below E0.out) (by omega) (Nat.le_trans E.size E0.out.size))
  have C2 := Lib.hid fun W (e : Ext w0 W) (hw : IsWr w0.heap.size g (Sp.wdot v.dot x) W) => putvec_calls w0 g _ v.past A cap W e hw hP.1 hP.2 (by omega)
  have C3 := Lib.hid fun W (e : Ext w0 W) (hw : IsWr w0.heap.size g (Sp.wvec v.past (Sp.wdot v.dot x)) W) => wflag_calls w0.heap.size g _ v.dead W hw (by omega) e.size
  have C4 := Lib.hid fun W (e : Ext w0 W) (hw : IsWr w0.heap.size g (Sp.wflag v.dead (Sp.wvec v.past (Sp.wdot v.dot x))) W) => wtext_calls w0.heap.size g _ (strOf v.data) W hw (by omega) (by rw [strOf_size]; omega) e.size
  have EE := Lib.hid (E.trans E0.out)
  rw [strOf_data] at C4
  clear h hW0 hP l1 l2 l3
  go_enter Tryz.func154, Tryz.ntmps154
  go_wp2_with fail
  rw [HW.out]
  refine C1.out.mono ?_
  rintro e w1 ⟨rfl, hw1⟩
  have H1 := Lib.hid hw1
  have E1 := Lib.hid (hw1.ext EE.out)
  have z1 := hw1.kept _ _ _ HBX.out (by decide) (by decide)
  have c2 := (z1.cell 2).trans rfl
  have Z1 := Lib.hid z1
  clear hw1 z1
  go_wp2_with fail
  refine (C2.out w1 E1.out H1.out.wr).mono ?_
  rintro e w2 ⟨rfl, hw2⟩
  have H2 := Lib.hid hw2
  have E2 := Lib.hid (hw2.ext E1.out)
  have z2 := hw2.kept _ _ _ Z1.out (by decide) (by decide)
  have c3 := (z2.cell 3).trans rfl
  have Z2 := Lib.hid z2
  clear hw2 z2 c2
  go_wp2_with fail
  refine (C3.out w2 E2.out H2.out.wr).mono ?_
  rintro e w3 ⟨rfl, hw3⟩
  have H3 := Lib.hid hw3
  have E3 := Lib.hid (hw3.ext E2.out)
  have z3 := hw3.kept _ _ _ Z2.out (by decide) (by decide)
  have c4 := (z3.cell 4).trans rfl
  clear hw3 z3 c3
  go_wp2_with fail
  refine (C4.out w3 E3.out H3.out.wr).mono ?_
  rintro e w4 ⟨rfl, hw4, hb4, hk4, hs4⟩
  go_wp2_with fail
  go_end0
  exact ⟨rfl, hw4, (((Below.mono E0.out E.size).trans H1.out.below).trans (H2.out.below.trans H3.out.below)).trans hb4, (((Kept.below E0.out).trans H1.out.kept).trans (H2.out.kept.trans H3.out.kept)).trans hk4, Nat.le_trans E0.out.size (Nat.le_trans H1.out.size (Nat.le_trans H2.out.size (Nat.le_trans H3.out.size hs4)))⟩
set_option maxRecDepth 100000 in
set_option maxHeartbeats 2000000 in
theorem putleaf1_calls (w0 : World) (g k : Nat) (x : Sp.W) (v : Sp.Ver) (A : Option Addr) (cap : Nat) (w : World) (E : Ext w0 w) (h : IsWr w0.heap.size g x w) (hP : Past w0 A v) (hd : v.data.length ≤ 4000000000) (hk : isBlk w k 160 #[.pointer (some ⟨g, 0, none⟩)]) (hlen : x.1.length ≤ 10000000000) :
    Calls Tryz.prog 153 #[verV A cap v, .pointer (some ⟨k, 0, none⟩)] w fun e w' => e = .returned (.tuple #[]) ∧ WTo w0.heap.size g (Sp.wver v x) w w' := by
  have e0 := Ext.alloc w (.cells (verC A cap v) 48)
  have C := Lib.hid (putver_calls w0 g x v A cap (w.alloc (.cells (verC A cap v) 48)) (E.trans e0) (h.below e0) hP hd hlen)
  have HE := Lib.hid E.size
  have z := hk.below e0
  have c0 := (z.cell 0).trans rfl
  clear h z hk hP e0
  go_enter Tryz.func153, Tryz.ntmps153
  go_wp2_with fail
  refine C.out.mono ?_
  rintro e w1 ⟨rfl, hw⟩
  have HW := Lib.hid hw
  clear hw
  go_wp2_with fail
  go_end0
  exact ⟨rfl, HW.out.wr, ((Below.refl _ w).alloc HE.out _).trans HW.out.below, (Kept.below (Ext.alloc _ _)).trans HW.out.kept, by have := HW.out.size; rw [World.size_alloc] at this; omega⟩
set_option maxRecDepth 100000 in
set_option maxHeartbeats 4000000 in
theorem listver_calls (w0 : World) (g k : Nat) (x : Sp.W) (l : List Sp.Ver) (A : Option Addr) (cap : Nat) (w : World) (E : Ext w0 w) (h : IsWr w0.heap.size g x w) (hD : Vers w0 A l) (hl : l.length ≤ 64) (hd : ∀ v ∈ l, v.data.length ≤ 48) (hk : isBlk w k 160 #[.pointer (some ⟨g, 0, none⟩)]) (hlen : x.1.length ≤ 1000000000) :
    Calls Tryz.prog 152 #[.pointer (some ⟨g, 0, none⟩), .slice A l.length cap, .func (.func 153) #[] #[.pointer (some ⟨k, 0, none⟩)]] w fun e w' => e = .returned (.tuple #[]) ∧ WTo w0.heap.size g (Sp.wvers l (Sp.wnum l.length x)) w w' := by
  have N := Lib.hid (wnum_calls w0.heap.size g x l.length w h (by omega) E.size)
  have HK := Lib.hid hk
  have hx1 := Sp.wnum_len (l.length : Int) x
  obtain ⟨y, hy⟩ : ∃ y, y = Sp.wnum (l.length : Int) x := ⟨_, rfl⟩
  rw [← hy] at N hx1 ⊢
  clear h hk hy
  go_enter Tryz.func152, Tryz.ntmps152
  go_wp2_with fail
  refine N.out.mono ?_
  rintro e w1 ⟨rfl, hw1, hb1, hk1, hs1⟩
  have W1 := Lib.hid (show WTo w0.heap.size g y w w1 from ⟨hw1, hb1, hk1, hs1⟩)
  clear hw1 hb1 hk1 hs1
  go_wp2_with fail
  go_loopw [14] (fun v14 wr => ∃ i : Nat, i ≤ l.length ∧ v14 = .int .i64 i ∧ WTo w0.heap.size g (Sp.wvers (l.take i) y) w wr) (fun v14 _ => l.length - (intOf v14).toNat)
  case atStart => exact ⟨0, Nat.zero_le _, rfl, W1.out⟩
  case round =>
    obtain ⟨i, hi, rfl, hw⟩ := hrel
    by_cases hlt : i < l.length
    · have eW := hw.ext E
      obtain ⟨ga, o, rfl, hc⟩ := hD.at (by omega)
      obtain ⟨A', c', hvc, hp⟩ := hc i hlt
      obtain ⟨c0, c1, c2, c3, c4⟩ := hvc.ext eW
      have hyl := Sp.wvers_len (l.take i) 48 (fun v hv => hd v (List.mem_of_mem_take hv)) y
      rw [List.length_take] at hyl
      have hyb : (661 + 48) * min i l.length ≤ (661 + 48) * 64 := Nat.mul_le_mul_left _ (by omega)
      have e0 := Ext.alloc wr (.cells (verC A' c' l[i]) 48)
      have hdi := hd l[i] (List.getElem_mem hlt)
      have C := Lib.hid (putleaf1_calls w0 g k (Sp.wvers (l.take i) y) l[i] A' c' (wr.alloc (.cells (verC A' c' l[i]) 48)) (eW.trans e0) (hw.wr.below e0) hp (by omega) ((hw.kept _ _ _ HK.out (by decide) (by decide)).below e0) (by omega))
      have ST := Lib.hid (show Sp.wvers (l.take (i + 1)) y = Sp.wver l[i] (Sp.wvers (l.take i) y) by rw [List.take_succ_eq_append_getElem hlt, Sp.wvers_snoc])
      have HW := Lib.hid hw
      have EW := Lib.hid eW.size
      clear hc hw eW hyl hyb hvc hp e0 hdi
      go_wp2_with (go_at_call 153; refine C.out.mono ?_; rintro e w2 ⟨rfl, hw2⟩; have H2 := Lib.hid hw2; clear hw2)
      go_roundw
      case rel =>
        refine ⟨i + 1, by omega, by go_num, by rw [ST.out]; exact H2.out.wr, ?_, ?_, ?_⟩
        · exact H2.out.below.from (HW.out.below.trans ((Below.refl _ _).alloc EW.out _))
        · exact HW.out.kept.trans ((Kept.below (Ext.alloc _ _)).trans H2.out.kept)
        · have := H2.out.size; have := HW.out.size; rw [World.size_alloc] at *; omega
      case measure => simp [intOf]; omega
    · obtain rfl : i = l.length := by omega
      rw [List.take_length] at hw
      have HW := Lib.hid hw
      clear hw
      go_wp2_with fail
      go_end0
      exact ⟨rfl, HW.out⟩
set_option maxRecDepth 100000 in
set_option maxHeartbeats 4000000 in
theorem putleaf_calls (w0 : World) (g : Nat) (x : Sp.W) (l : List Sp.Ver) (A : Option Addr) (cap : Nat) (w : World) (E : Ext w0 w) (h : IsWr w0.heap.size g x w) (hD : Vers w0 A l) (hlen : x.1.length ≤ 100000000) :
    Calls Tryz.prog 127 #[.pointer (some ⟨g, 0, none⟩), .slice A l.length cap] w fun e w' => e = .returned (.tuple #[]) ∧ WTo w0.heap.size g (Sp.wleaf l x) w w' := by
  obtain ⟨W0, hW0⟩ : ∃ W0, W0 = w.alloc (.cells #[.pointer (some ⟨g, 0, none⟩)] 160) := ⟨_, rfl⟩
  have HBX := Lib.hid (show isBlk W0 w.heap.size 160 #[.pointer (some ⟨g, 0, none⟩)] by rw [hW0]; exact box_at _ _ _)
  have E0 := Lib.hid (show Ext w W0 by rw [hW0]; exact Ext.alloc _ _)
  have HW := Lib.hid hW0.symm
  have CK := Lib.hid (leaf_calls l A cap W0 (hD.ext (E.trans E0.out)))
  have HI := Lib.hid (h.below E0.out)
  clear hW0
  by_cases hz : Sp.leaf l = 0
  · have F := Lib.hid (show Sp.wleaf l x = Sp.wvers l (Sp.wnum l.length x) from if_neg (by simpa using hz))
    have L := Lib.hid fun W (e : Ext W0 W) => listver_calls w0 g w.heap.size x l A cap W (E.trans (E0.out.trans e)) (HI.out.below e) hD (Sp.leaf_ok hz).1 (Sp.leaf_data hz) (HBX.out.below e) (by omega)
    rw [hz] at CK
    clear hz h
    go_enter Tryz.func127, Tryz.ntmps127
    go_wp2_with fail
    rw [HW.out]
    refine CK.out.mono ?_
    rintro e w1 ⟨rfl, hb1⟩
    have c0 := ((HBX.out.below hb1).cell 0).trans rfl
    have B1 := Lib.hid hb1
    clear hb1
    go_wp2_with fail
    refine (L.out w1 B1.out).mono ?_
    rintro e w2 ⟨rfl, hw2⟩
    have H2 := Lib.hid hw2
    clear hw2 c0
    go_wp2_with fail
    go_end0
    have e1 := E0.out.trans B1.out
    exact ⟨rfl, by rw [F.out]; exact H2.out.wr, (Below.mono e1 E.size).trans H2.out.below, (Kept.below e1).trans H2.out.kept, Nat.le_trans e1.size H2.out.size⟩
  · have F := Lib.hid (show Sp.wleaf l x = Sp.wfail (Sp.leaf l) x from if_pos hz)
    have L := Lib.hid fun W (e : Ext W0 W) => wfail_calls w0.heap.size g x (Sp.leaf l) W (HI.out.below e)
    have b1 : (Sp.leaf l != 0) = true := by simpa using hz
    clear hz h
    go_enter Tryz.func127, Tryz.ntmps127
    go_wp2_with fail
    rw [HW.out]
    refine CK.out.mono ?_
    rintro e w1 ⟨rfl, hb1⟩
    have c0 := ((HBX.out.below hb1).cell 0).trans rfl
    have B1 := Lib.hid hb1
    clear hb1
    go_wp2_with fail
    refine (L.out w1 B1.out).mono ?_
    rintro e w2 ⟨rfl, hw2, hb2, hk2, hs2⟩
    go_wp2_with fail
    refine bodyPost_ret (results_none rfl _ _ _) rfl ?_
    have e1 := E0.out.trans B1.out
    exact ⟨rfl, by rw [F.out]; exact hw2, (Below.mono e1 E.size).trans hb2, (Kept.below e1).trans hk2, Nat.le_trans e1.size hs2⟩
end Go.Proofs.YtmlkachfahabnaaGreatDoor
namespace Go.Proofs.YtmlkachfahabnaaGreatDoor
open Go.RowKit
namespace Sp
theorem sha_split (l : Bs) : digest (mixN ((l.drop (64 * (l.length / 64)) ++ padding (l.drop (64 * (l.length / 64))).length l.length).length / 64) (mixN (l.length / 64) start l) (l.drop (64 * (l.length / 64)) ++ padding (l.drop (64 * (l.length / 64))).length l.length)) = sha l := by
  unfold sha
  congr 1
  have hd : (l.drop (64 * (l.length / 64))).length = l.length % 64 := by rw [List.length_drop]; omega
  have hp : padding (l.drop (64 * (l.length / 64))).length l.length = padding l.length l.length := by
    unfold padding; rw [hd, Nat.mod_mod]
  rw [hp]
  have e1 : l.drop (64 * (l.length / 64)) ++ padding l.length l.length = (pad l).drop (64 * (l.length / 64)) := by
    unfold pad; rw [List.drop_append_of_le_length (by omega)]
  have e2 : mixN (l.length / 64) start l = mixN (l.length / 64) start (pad l) := by
    unfold pad; rw [mixN_pre _ _ _ _ (by omega)]
  have e3 : (pad l).length / 64 = l.length / 64 + ((pad l).drop (64 * (l.length / 64))).length / 64 := by
    have : l.length ≤ (pad l).length := by unfold pad; rw [List.length_append]; omega
    rw [List.length_drop]; omega
  rw [e1, e2, e3, mixN_add]
end Sp
set_option maxRecDepth 100000 in
set_option maxHeartbeats 4000000 in
theorem sha_calls (l : Sp.Bs) (w : World) (hl : l.length ≤ 4000000000) (K : KeysAt w 2) :
    Calls Tryz.prog 108 #[.string (strOf l)] w fun e w' => e = .returned (digV (Sp.sha l)) ∧ Ext w w' := by
  have FF := Lib.hid (Sp.sha_split l)
  have hds := digC_size (Sp.sha l)
  have hsl := Sp.sha_len l
  obtain ⟨arr, ha⟩ : ∃ arr, arr = digC (Sp.sha l) := ⟨_, rfl⟩
  have HA := Lib.hid ha
  rw [← ha] at hds
  have w1 : arr.all (·.oneCell') = true := by rw [ha]; exact all_oneCell_toArray (bytes_one _)
  clear ha
  have tok2 : True := trivial
  rw [show digV (Sp.sha l) = .agg (digC (Sp.sha l)) from rfl, ← HA.out]
  go_enter Tryz.func108, Tryz.ntmps108
  go_wp2_with (have _t2 := tok2; ((with_reducible refine at_alloc (t := 33) rfl ?_); refine box_new rfl (cs := zero32) (t := 33) (by first | (go_simp; done) | (go_simp; rfl)) ?_; intro g2 w2 hg2 hx2 hb2; have H2 := Lib.hid hx2; have B2 := Lib.hid hb2; have GG2 := Lib.hid hg2; clear tok2 _t2 hx2 hb2 hg2))
  have K2 := K.ext (Ext.trans B2.out (Ext.alloc w2 (.cells #[.bool false, .int .u32 0, .int .u32 0, .int .u32 0, .int .u32 0, .int .u32 0, .int .u32 0, .int .u32 0, .int .u32 0, .slice none 0 0, .int .u64 0] 165)))
  refine (swrite_calls w2.heap.size l _ hl K2 (box_at w2 _ _)).mono ?_
  rintro e w3 ⟨rfl, hs3, ho3⟩
  have E3 := Lib.hid (Ext.from' (Ext.trans B2.out (Ext.alloc w2 _)) (ho3.below (show w.heap.size ≤ w2.heap.size from B2.out.size) (by have := B2.out.size; simp; omega)))
  have K3 := K.ext E3.out
  have H3 := Lib.hid (ho3.blk (H2.out.alloc _) (Nat.ne_of_lt H2.out.lt))
  have SV := Lib.hid (svalue_calls w2.heap.size _ _ l.length w3 (Sp.mixN_len _ _ _ rfl) (by rw [List.length_drop]; omega) (by omega) K3 hs3)
  rw [FF.out, ← HA.out] at SV
  clear hs3 ho3 K2 K3
  go_wp2_with fail
  refine SV.out.mono ?_
  rintro e w4 ⟨rfl, hb4⟩
  have H4 := Lib.hid (H3.out.below hb4)
  have E4 := Lib.hid (E3.out.trans hb4)
  clear hb4
  go_wp2_with ((with_reducible refine at_store (t := 33) rfl ?_); refine wpList_store_row rfl _ _ _ rfl g2 arr rfl rfl 33 _ H4.out (by rw [hds, hsl]; kernel_rfl) (by rw [hds, hsl]; rfl) w1 ?_)
  refine bodyPost_ret (results_cell_row rfl _ _ g2 33 arr (0, 0) _ rfl (setRow_heap _ _ _ _ _ _ H4.out) Tryz.underlying33 rfl (by rw [hds, hsl]; kernel_rfl)) rfl ?_
  exact ⟨rfl, below_setRow E4.out (by have := GG2.out; omega) _⟩
end Go.Proofs.YtmlkachfahabnaaGreatDoor
namespace Go.Proofs.YtmlkachfahabnaaGreatDoor
open Go.RowKit
def OwnT (w : World) (base : Nat) (e : TypeId) (v : Value) (n : Nat) (xs : List Value) : Prop :=
  xs.length = n ∧ ∃ g cap cur fz, v = .slice (some ⟨g, 0, none⟩) n cap ∧ base ≤ g ∧ w.heap[g]? = some (.cells cur e fz) ∧ (cur.size ≤ fz.1 ∨ fz.2 = 0) ∧ n ≤ cap ∧ cap ≤ maxLen ∧ cur.size = cap ∧ cur.toList.take n = xs
theorem storeT (P : Program) (g o : Nat) (t : TypeId) (fz : Nat × Nat) : ∀ (vs : List Value) (i : Nat) (cur : Array Value) (w : World), w.heap[g]? = some (.cells cur t fz) → (cur.size ≤ fz.1 ∨ fz.2 = 0) → o + i + vs.length ≤ cur.size → (∀ v ∈ vs, v.oneCell' = true) →
    (storeCells ⟨g, o, none⟩ vs i).run P w = .ok () (w.setRow g (cur.toList.take (o + i) ++ vs ++ cur.toList.drop (o + i + vs.length)).toArray)
  | [], i, cur, w, hg, _, _, _ => by
    simp only [storeCells, List.append_nil, List.length_nil, Nat.add_zero, List.take_append_drop, Array.toArray_toList]
    rw [setRow_self w g cur t fz hg]
    rfl
  | v :: rest, i, cur, w, hg, hfz, hl, h1 => by
    have hi : o + i < cur.size := by simp at hl; omega
    have hadd : (⟨g, o, none⟩ : Addr).add i = ⟨g, o + i, none⟩ := by unfold Addr.add; split <;> simp_all
    have hcell : w.cell? ⟨g, o + i, none⟩ = some cur[o + i] := by simp [World.cell?, hg, hi]
    have hfro : w.frozen? ⟨g, o + i, none⟩ = false := by
      obtain ⟨lo, hi'⟩ := fz
      simp only [World.frozen?, hg, Bool.and_eq_false_iff, decide_eq_false_iff_not]
      simp only at hfz
      omega
    have hst : (store ((⟨g, o, none⟩ : Addr).add i) v).run P w = .ok () (w.setRow g (cur.setIfInBounds (o + i) v)) := by
      rw [hadd, run_store P w _ v _ (h1 v (by simp)), hcell]
      simp [hfro, setCell_eq_setRow w g (o + i) cur t fz v hg]
    have ih := storeT P g o t fz rest (i + 1) (cur.setIfInBounds (o + i) v) (w.setRow g (cur.setIfInBounds (o + i) v)) (setRow_heap w g cur _ t _ hg) (by simpa using hfz) (by simp at hl ⊢; omega) (fun x hx => h1 x (by simp [hx]))
    simp only [storeCells, Sem.run_bind, hst, Result.andThen_ok, ih, setRow_setRow]
    congr 3
    have e := list_seg_step cur.toList (o + i) v rest (by simp at hl ⊢; omega)
    simpa [Array.toList_setIfInBounds, Nat.add_assoc] using e
theorem run_roomT {P : Program} (w : World) (t ty e : TypeId) (i : TypeInfo) (ht : P.underlying t = some (.slice e)) (hi : P.info? e = some i) (hs1 : i.size = 1)
    (g sLen sCap : Nat) (cur : Array Value) (fz : Nat × Nat) (hg : w.heap[g]? = some (.cells cur e fz)) (hfz : cur.size ≤ fz.1 ∨ fz.2 = 0)
    (a : Addr) (m c : Nat) (news : List Value) (hl : news.length = m) (hnews : ∀ j u, news[j]? = some u → w.cell? (a.add j) = some u) (h1 : ∀ u ∈ news, u.oneCell' = true)
    (hroom : sLen + m ≤ sCap) (hfit : sLen + news.length ≤ cur.size) :
    (Builtin.append_ #[t, t] ty #[.slice (some ⟨g, 0, none⟩) sLen sCap, .slice (some a) m c]).run P w =
      .ok (.slice (some ⟨g, 0, none⟩) (sLen + m) sCap) (w.setRow g (cur.toList.take sLen ++ news ++ cur.toList.drop (sLen + news.length)).toArray) := by
  have hf := run_firstCells_some (P := P) w 1 m a m c news (by omega) hnews
  have hst := storeT P g sLen e fz news 0 cur w hg hfz (by simpa using hfit) h1
  simp only [Nat.add_zero] at hst
  simp [Builtin.append_, run_underlying ht, sizeOf, typeInfo, hi, hs1, Builtin.lenOf, hroom, hf, Addr.add_lit, hst]
section
variable {P : Program} {ops : Array Oper} {rest : List Oper} {o : Oper} {a : Act} {Q : Exit → Act → World → Prop} {w : World}
/-- As app_new. -/
theorem app_newT {t e : TypeId} (hst : AppStat P t e 1 1) (hgd : o.guard = none) (s x : Operand) (ho : o.op = .call { callee := .builtin .append, args := #[s, x], argTypes := #[t, t] })
    (base : Nat) (v : Value) (n : Nat) (xs : List Value) (hs : a.eval s = v) (hown : OwnT w base e v n xs) (c : Value) (ty : TypeId)
    (hx : a.eval x = .slice (some ⟨w.heap.size, 0, none⟩) 1 1) (h1 : c.oneCell' = true) (hcap : n + 1 ≤ 140737488355328) (hbase : base ≤ w.heap.size)
    (h : ∀ v' w', OwnT w' base e v' (n + 1) (xs ++ [c]) → Below base w w' → wpList P ops Q rest (a.put o.dst v') w') :
    wpList P ops Q (o :: rest) a (w.alloc (.cells #[c] ty)) := by
  obtain ⟨ht, hz0, hb0, i, z, hi, hz, hsz, hby, hzs⟩ := hst
  obtain ⟨hxl, g, cap, cur, fz, rfl, hbg, hg, hfz, hnc, hcm, hcs, htake⟩ := hown
  have hgl : g < w.heap.size := (Array.getElem?_eq_some_iff.1 hg).1
  have hg' : (w.alloc (.cells #[c] ty)).heap[g]? = some (.cells cur e fz) := (Below.heap_alloc w _ g hgl).trans hg
  have hnews : ∀ j u, ([c] : List Value)[j]? = some u → (w.alloc (.cells #[c] ty)).cell? ((⟨w.heap.size, 0, none⟩ : Addr).add j) = some u := by
    intro j u hj
    rw [show (⟨w.heap.size, 0, none⟩ : Addr).add j = ⟨w.heap.size, 0 + j, none⟩ from by simp [Addr.add]; omega, cell_of_row _ w.heap.size (0 + j) #[c] ty (0, 0) (heap_alloc_new w _)]
    simpa using hj
  have hsmall : n + 1 ≤ 9223372036854775807 := by omega
  have hlen : (xs ++ [c]).length = n + 1 := by simp [hxl]
  have holds : ∀ j u, xs[j]? = some u → (w.alloc (.cells #[c] ty)).cell? ((⟨g, 0, none⟩ : Addr).add j) = some u := by
    intro j u hu
    have hadd : (⟨g, 0, none⟩ : Addr).add j = ⟨g, j, none⟩ := by unfold Addr.add; split <;> simp_all
    rw [hadd, cell_of_row _ g j cur e fz hg']
    rw [← htake, List.getElem?_take] at hu
    split at hu
    · simpa using hu
    · cases hu
  by_cases hroom : n + 1 ≤ cap
  · have hr := run_roomT (P := P) (w.alloc (.cells #[c] ty)) t o.type e i ht hi hsz g n cap cur fz hg' hfz ⟨w.heap.size, 0, none⟩ 1 1 [c] rfl hnews (by intro u hu; simp at hu; subst hu; exact h1) hroom (by simp; omega)
    refine Lib.wpList_append_run _ hgd s x t t ho _ _ hs hx _ _ hr (h _ _ ⟨hlen, g, cap, _, fz, rfl, hbg, setRow_heap _ g cur _ e _ hg', ?_, hroom, hcm, ?_, ?_⟩ ?_)
    · rcases hfz with h | h
      · left; simp; omega
      · exact .inr h
    · simp; omega
    · rw [htake, ← hlen]
      exact List.take_left
    · exact below_setRow ((Below.refl _ _).alloc hbase _) hbg _
  · have hr := run_append_grow (P := P) (w.alloc (.cells #[c] ty)) t o.type e i z ht hi hz ⟨g, 0, none⟩ n cap xs (by rw [hsz, hxl, Nat.mul_one]) holds ⟨w.heap.size, 0, none⟩ 1 1 [c] (by rw [hsz]; rfl) hnews (by omega) (by omega) (growslice_fits (by omega) (by rw [hby]; omega))
    have hge := grownCap_ge (w.alloc (.cells #[c] ty)) (n + 1) cap e
    have hcm2 := grownCap_le_maxLen (w.alloc (.cells #[c] ty)) (n + 1) cap e (by unfold maxLen; omega)
    refine Lib.wpList_append_run _ hgd s x t t ho _ _ hs hx _ _ hr (h _ _ ⟨hlen, (w.alloc (.cells #[c] ty)).heap.size, _, _, (0, 0), rfl, by simp; omega, heap_alloc_new (w.alloc (.cells #[c] ty)).drew _, .inr rfl, hge, hcm2, ?_, ?_⟩ ?_)
    · simp only [Array.size_append, List.size_toArray, size_zeroCells, hzs, hxl, List.length_cons, List.length_nil]
      omega
    · simp only [Array.toList_append, List.append_assoc]
      rw [← List.append_assoc, ← hlen]
      exact List.take_left
    · exact (((Below.refl _ _).alloc hbase _).drew).alloc (by simp; omega) _
end
theorem OwnT.read {w : World} {base n : Nat} {e : TypeId} {v : Value} {xs : List Value} (h : OwnT w base e v n xs) : ∃ A cap, v = .slice A n cap ∧ n ≤ cap ∧ cap ≤ maxLen ∧ Cells w A xs ∧ OwnT w base e (.slice A n cap) n xs := by
  obtain ⟨hl, g, cap, cur, fz, rfl, hbg, hg, hfz, hnc, hcm, hcs, htake⟩ := h
  refine ⟨_, cap, rfl, hnc, hcm, fun _ => ⟨g, 0, rfl, fun j u hu => ?_⟩, hl, g, cap, cur, fz, rfl, hbg, hg, hfz, hnc, hcm, hcs, htake⟩
  rw [cell_of_row w g (0 + j) cur e fz hg]
  rw [← htake, List.getElem?_take] at hu
  split at hu
  · simpa using hu
  · cases hu
/-- '[]byte(s)'. -/
theorem conv_bytes {P : Program} {ops : Array Oper} {rest : List Oper} {o : Oper} {a : Act} {Q : Exit → Act → World → Prop} {w : World} {src dst e : TypeId} {x : Operand} (ho : o.op = .convert src dst x) (hgd : o.guard = none)
    (hs : P.underlying src = some .string) (hd : P.underlying dst = some (.slice e)) (he : P.underlying e = some (.int .u8)) (l : Sp.Bs) (hx : a.eval x = .string (strOf l)) (hl : l.length ≤ maxLen)
    (h : ∀ v w', OwnT w' w.heap.size e v l.length (l.map byteV) → Ext w w' → wpList P ops Q rest (a.put o.dst v) w') : wpList P ops Q (o :: rest) a w := by
  refine wpList_plain hgd fun K hK => ?_
  unfold Oper.wp
  have hr := run_bytes_of_string (P := P) w src dst e (strOf l) hs hd he
  simp only [execOp, ho, hx, Sem.run_bind]
  have hsz : (strOf l).size = l.length := strOf_size l
  rw [hsz] at hr
  have hge := grownCap_ge w l.length 0 e
  have hcm := grownCap_le_maxLen w l.length 0 e hl
  have hbs : (bytesRow (strOf l) (grownCap w l.length 0 e)).size = grownCap w l.length 0 e := by
    simp only [bytesRow, Array.size_append, Array.size_map, Array.size_replicate, hsz]
    have : (strOf l).data.size = l.length := hsz
    omega
  simp only [hr, Result.andThen_ok]
  refine hK _ _ (h _ _ ⟨by simp, w.heap.size, _, _, _, rfl, Nat.le_refl _, heap_alloc_new w.drew _, .inl (Nat.le_refl _), hge, hcm, hbs, ?_⟩ ?_)
  · simp [bytesRow, strOf, List.take_append_of_le_length]
    intro c _; rfl
  · exact ((Below.refl _ _).drew).alloc (Nat.le_refl _) _
end Go.Proofs.YtmlkachfahabnaaGreatDoor
