/- Walks: versions and leaves as bytes. Walks: a text's digest. A slice of the call's own whose block bears a mark behind its end ('[]byte(s)'): one cell and one byte an element. Walks: the document's digests. Walks: the document's digest of a text. Walks: the document's digest of a text: the walk. -/
import Derived.Test.YteiblfcehlibpaaGreatDoorGF18
import Derived.Test.YteiblfcehlibpaaGreatDoorGF15
import Derived.Lib.FrozenHead
namespace Go.Proofs.YteiblfcehlibpaaGreatDoor
open Go.RowKit Go.Shelf
set_option maxRecDepth 100000 in
set_option maxHeartbeats 4000000 in
theorem putver_calls (w0 : World) (g : Nat) (x : Sp.W) (v : Sp.Ver) (A : Option Addr) (cap : Nat) (w : World) (E : Ext w0 w) (h : IsWr w0.heap.size g x w) (hP : Past w0 A v) (hd : v.data.length ≤ 4000000000) (hlen : x.1.length ≤ 10000000000) :
    Calls Tryz.prog 245 #[.pointer (some ⟨g, 0, none⟩), verV A cap v] w fun e w' => e = .returned (.tuple #[]) ∧ WTo w0.heap.size g (Sp.wver v x) w w' := by
  obtain ⟨W0, hW0⟩ : ∃ W0, W0 = w.alloc (.cells (verC A cap v) 75) := ⟨_, rfl⟩
  have HBX := Lib.hid (show isBlk W0 w.heap.size 75 (verC A cap v) by rw [hW0]; exact box_at _ _ _)
  have E0 := Lib.hid (show Ext w W0 by rw [hW0]; exact Ext.alloc _ _)
  have HW := Lib.hid hW0.symm
  have l1 := Sp.wdot_len v.dot x
  have l2 := Sp.wvec_len v.past (Sp.wdot v.dot x)
  have l3 := Sp.wflag_len v.dead (Sp.wvec v.past (Sp.wdot v.dot x))
  have C1 := Lib.hid (putdot_calls w0.heap.size g x v.dot W0 (h.below E0.out) (by omega) (Nat.le_trans E.size E0.out.size))
  have C2 := Lib.hid fun W (e : Ext w0 W) (hw : IsWr w0.heap.size g (Sp.wdot v.dot x) W) => putvec_calls w0 g _ v.past A cap W e hw hP.1 hP.2 (by omega)
  have C3 := Lib.hid fun W (e : Ext w0 W) (hw : IsWr w0.heap.size g (Sp.wvec v.past (Sp.wdot v.dot x)) W) => wflag_calls w0.heap.size g _ v.dead W hw (by omega) e.size
  have C4 := Lib.hid fun W (e : Ext w0 W) (hw : IsWr w0.heap.size g (Sp.wflag v.dead (Sp.wvec v.past (Sp.wdot v.dot x))) W) => wtext_calls w0.heap.size g _ (strOf v.data) W hw (by omega) (by rw [strOf_size]; omega) e.size
  have EE := Lib.hid (E.trans E0.out)
  rw [strOf_data] at C4
  clear h hW0 hP l1 l2 l3
  go_enter Tryz.func245, Tryz.ntmps245
  go_wp2_with fail
  rw [HW.out]
  refine C1.out.mono ?_
  rintro e w1 ⟨rfl, hw1⟩
  have H1 := Lib.hid hw1
  have E1 := Lib.hid (hw1.ext EE.out)
  have z1 := hw1.kept _ _ _ HBX.out (by decide) (by decide)
  have c2 := (z1.cell 2).trans rfl
  have Z1 := Lib.hid z1
  clear hw1 z1
  go_wp2_with fail
  refine (C2.out w1 E1.out H1.out.wr).mono ?_
  rintro e w2 ⟨rfl, hw2⟩
  have H2 := Lib.hid hw2
  have E2 := Lib.hid (hw2.ext E1.out)
  have z2 := hw2.kept _ _ _ Z1.out (by decide) (by decide)
  have c3 := (z2.cell 3).trans rfl
  have Z2 := Lib.hid z2
  clear hw2 z2 c2
  go_wp2_with fail
  refine (C3.out w2 E2.out H2.out.wr).mono ?_
  rintro e w3 ⟨rfl, hw3⟩
  have H3 := Lib.hid hw3
  have E3 := Lib.hid (hw3.ext E2.out)
  have z3 := hw3.kept _ _ _ Z2.out (by decide) (by decide)
  have c4 := (z3.cell 4).trans rfl
  clear hw3 z3 c3
  go_wp2_with fail
  refine (C4.out w3 E3.out H3.out.wr).mono ?_
  rintro e w4 ⟨rfl, hw4, hb4, hk4, hs4⟩
  go_wp2_with fail
  go_end0
  exact ⟨rfl, hw4, (((Below.mono E0.out E.size).trans H1.out.below).trans (H2.out.below.trans H3.out.below)).trans hb4, (((Kept.below E0.out).trans H1.out.kept).trans (H2.out.kept.trans H3.out.kept)).trans hk4, Nat.le_trans E0.out.size (Nat.le_trans H1.out.size (Nat.le_trans H2.out.size (Nat.le_trans H3.out.size hs4)))⟩
set_option maxRecDepth 100000 in
set_option maxHeartbeats 2000000 in
theorem putleaf1_calls (w0 : World) (g k : Nat) (x : Sp.W) (v : Sp.Ver) (A : Option Addr) (cap : Nat) (w : World) (E : Ext w0 w) (h : IsWr w0.heap.size g x w) (hP : Past w0 A v) (hd : v.data.length ≤ 4000000000) (hk : isBlk w k 225 #[.pointer (some ⟨g, 0, none⟩)]) (hlen : x.1.length ≤ 10000000000) :
    Calls Tryz.prog 244 #[verV A cap v, .pointer (some ⟨k, 0, none⟩)] w fun e w' => e = .returned (.tuple #[]) ∧ WTo w0.heap.size g (Sp.wver v x) w w' := by
  have e0 := Ext.alloc w (.cells (verC A cap v) 75)
  have C := Lib.hid (putver_calls w0 g x v A cap (w.alloc (.cells (verC A cap v) 75)) (E.trans e0) (h.below e0) hP hd hlen)
  have HE := Lib.hid E.size
  have z := hk.below e0
  have c0 := (z.cell 0).trans rfl
  clear h z hk hP e0
  go_enter Tryz.func244, Tryz.ntmps244
  go_wp2_with fail
  refine C.out.mono ?_
  rintro e w1 ⟨rfl, hw⟩
  have HW := Lib.hid hw
  clear hw
  go_wp2_with fail
  go_end0
  exact ⟨rfl, HW.out.wr, ((Below.refl _ w).alloc HE.out _).trans HW.out.below, (Kept.below (Ext.alloc _ _)).trans HW.out.kept, by have := HW.out.size; rw [World.size_alloc] at this; omega⟩
set_option maxRecDepth 100000 in
set_option maxHeartbeats 4000000 in
theorem listver_calls (w0 : World) (g k : Nat) (x : Sp.W) (l : List Sp.Ver) (A : Option Addr) (cap : Nat) (w : World) (E : Ext w0 w) (h : IsWr w0.heap.size g x w) (hD : Vers w0 A l) (hl : l.length ≤ 64) (hd : ∀ v ∈ l, v.data.length ≤ 48) (hk : isBlk w k 225 #[.pointer (some ⟨g, 0, none⟩)]) (hlen : x.1.length ≤ 1000000000) :
    Calls Tryz.prog 243 #[.pointer (some ⟨g, 0, none⟩), .slice A l.length cap, .func (.func 244) #[] #[.pointer (some ⟨k, 0, none⟩)]] w fun e w' => e = .returned (.tuple #[]) ∧ WTo w0.heap.size g (Sp.wvers l (Sp.wnum l.length x)) w w' := by
  have N := Lib.hid (wnum_calls w0.heap.size g x l.length w h (by omega) E.size)
  have HK := Lib.hid hk
  have hx1 := Sp.wnum_len (l.length : Int) x
  obtain ⟨y, hy⟩ : ∃ y, y = Sp.wnum (l.length : Int) x := ⟨_, rfl⟩
  rw [← hy] at N hx1 ⊢
  clear h hk hy
  go_enter Tryz.func243, Tryz.ntmps243
  go_wp2_with fail
  refine N.out.mono ?_
  rintro e w1 ⟨rfl, hw1, hb1, hk1, hs1⟩
  have W1 := Lib.hid (show WTo w0.heap.size g y w w1 from ⟨hw1, hb1, hk1, hs1⟩)
  clear hw1 hb1 hk1 hs1
  go_wp2_with fail
  go_loopw [14] (fun v14 wr => ∃ i : Nat, i ≤ l.length ∧ v14 = .int .i64 i ∧ WTo w0.heap.size g (Sp.wvers (l.take i) y) w wr) (fun v14 _ => l.length - (intOf v14).toNat)
  case atStart => exact ⟨0, Nat.zero_le _, rfl, W1.out⟩
  case round =>
    obtain ⟨i, hi, rfl, hw⟩ := hrel
    by_cases hlt : i < l.length
    · have eW := hw.ext E
      obtain ⟨ga, o, rfl, hc⟩ := hD.at (by omega)
      obtain ⟨A', c', hvc, hp⟩ := hc i hlt
      obtain ⟨c0, c1, c2, c3, c4⟩ := hvc.ext eW
      have hyl := Sp.wvers_len (l.take i) 48 (fun v hv => hd v (List.mem_of_mem_take hv)) y
      rw [List.length_take] at hyl
      have hyb : (661 + 48) * min i l.length ≤ (661 + 48) * 64 := Nat.mul_le_mul_left _ (by omega)
      have e0 := Ext.alloc wr (.cells (verC A' c' l[i]) 75)
      have hdi := hd l[i] (List.getElem_mem hlt)
      have C := Lib.hid (putleaf1_calls w0 g k (Sp.wvers (l.take i) y) l[i] A' c' (wr.alloc (.cells (verC A' c' l[i]) 75)) (eW.trans e0) (hw.wr.below e0) hp (by omega) ((hw.kept _ _ _ HK.out (by decide) (by decide)).below e0) (by omega))
      have ST := Lib.hid (show Sp.wvers (l.take (i + 1)) y = Sp.wver l[i] (Sp.wvers (l.take i) y) by rw [List.take_succ_eq_append_getElem hlt, Sp.wvers_snoc])
      have HW := Lib.hid hw
      have EW := Lib.hid eW.size
      clear hc hw eW hyl hyb hvc hp e0 hdi
      go_wp2_with (go_at_call 244; refine C.out.mono ?_; rintro e w2 ⟨rfl, hw2⟩; have H2 := Lib.hid hw2; clear hw2)
      go_roundw
      case rel =>
        refine ⟨i + 1, by omega, by go_num, by rw [ST.out]; exact H2.out.wr, ?_, ?_, ?_⟩
        · exact H2.out.below.from (HW.out.below.trans ((Below.refl _ _).alloc EW.out _))
        · exact HW.out.kept.trans ((Kept.below (Ext.alloc _ _)).trans H2.out.kept)
        · have := H2.out.size; have := HW.out.size; rw [World.size_alloc] at *; omega
      case measure => simp [intOf]; omega
    · obtain rfl : i = l.length := by omega
      rw [List.take_length] at hw
      have HW := Lib.hid hw
      clear hw
      go_wp2_with fail
      go_end0
      exact ⟨rfl, HW.out⟩
set_option maxRecDepth 100000 in
set_option maxHeartbeats 4000000 in
theorem putleaf_calls (w0 : World) (g : Nat) (x : Sp.W) (l : List Sp.Ver) (A : Option Addr) (cap : Nat) (w : World) (E : Ext w0 w) (h : IsWr w0.heap.size g x w) (hD : Vers w0 A l) (hlen : x.1.length ≤ 100000000) :
    Calls Tryz.prog 222 #[.pointer (some ⟨g, 0, none⟩), .slice A l.length cap] w fun e w' => e = .returned (.tuple #[]) ∧ WTo w0.heap.size g (Sp.wleaf l x) w w' := by
  obtain ⟨W0, hW0⟩ : ∃ W0, W0 = w.alloc (.cells #[.pointer (some ⟨g, 0, none⟩)] 225) := ⟨_, rfl⟩
  have HBX := Lib.hid (show isBlk W0 w.heap.size 225 #[.pointer (some ⟨g, 0, none⟩)] by rw [hW0]; exact box_at _ _ _)
  have E0 := Lib.hid (show Ext w W0 by rw [hW0]; exact Ext.alloc _ _)
  have HW := Lib.hid hW0.symm
  have CK := Lib.hid (leaf_calls l A cap W0 (hD.ext (E.trans E0.out)))
  have HI := Lib.hid (h.below E0.out)
  clear hW0
  by_cases hz : Sp.leaf l = 0
  · have F := Lib.hid (show Sp.wleaf l x = Sp.wvers l (Sp.wnum l.length x) from if_neg (by simpa using hz))
    have L := Lib.hid fun W (e : Ext W0 W) => listver_calls w0 g w.heap.size x l A cap W (E.trans (E0.out.trans e)) (HI.out.below e) hD (Sp.leaf_ok hz).1 (Sp.leaf_data hz) (HBX.out.below e) (by omega)
    rw [hz] at CK
    clear hz h
    go_enter Tryz.func222, Tryz.ntmps222
    go_wp2_with fail
    rw [HW.out]
    refine CK.out.mono ?_
    rintro e w1 ⟨rfl, hb1⟩
    have c0 := ((HBX.out.below hb1).cell 0).trans rfl
    have B1 := Lib.hid hb1
    clear hb1
    go_wp2_with fail
    refine (L.out w1 B1.out).mono ?_
    rintro e w2 ⟨rfl, hw2⟩
    have H2 := Lib.hid hw2
    clear hw2 c0
    go_wp2_with fail
    go_end0
    have e1 := E0.out.trans B1.out
    exact ⟨rfl, by rw [F.out]; exact H2.out.wr, (Below.mono e1 E.size).trans H2.out.below, (Kept.below e1).trans H2.out.kept, Nat.le_trans e1.size H2.out.size⟩
  · have F := Lib.hid (show Sp.wleaf l x = Sp.wfail (Sp.leaf l) x from if_pos hz)
    have L := Lib.hid fun W (e : Ext W0 W) => wfail_calls w0.heap.size g x (Sp.leaf l) W (HI.out.below e)
    have b1 : (Sp.leaf l != 0) = true := by simpa using hz
    clear hz h
    go_enter Tryz.func222, Tryz.ntmps222
    go_wp2_with fail
    rw [HW.out]
    refine CK.out.mono ?_
    rintro e w1 ⟨rfl, hb1⟩
    have c0 := ((HBX.out.below hb1).cell 0).trans rfl
    have B1 := Lib.hid hb1
    clear hb1
    go_wp2_with fail
    refine (L.out w1 B1.out).mono ?_
    rintro e w2 ⟨rfl, hw2, hb2, hk2, hs2⟩
    go_wp2_with fail
    refine bodyPost_ret (results_none rfl _ _ _) rfl ?_
    have e1 := E0.out.trans B1.out
    exact ⟨rfl, by rw [F.out]; exact hw2, (Below.mono e1 E.size).trans hb2, (Kept.below e1).trans hk2, Nat.le_trans e1.size hs2⟩
end Go.Proofs.YteiblfcehlibpaaGreatDoor
namespace Go.Proofs.YteiblfcehlibpaaGreatDoor
open Go.RowKit
namespace Sp
theorem sha_split (l : Bs) : digest (mixN ((l.drop (64 * (l.length / 64)) ++ padding (l.drop (64 * (l.length / 64))).length l.length).length / 64) (mixN (l.length / 64) start l) (l.drop (64 * (l.length / 64)) ++ padding (l.drop (64 * (l.length / 64))).length l.length)) = sha l := by
  unfold sha
  congr 1
  have hd : (l.drop (64 * (l.length / 64))).length = l.length % 64 := by rw [List.length_drop]; omega
  have hp : padding (l.drop (64 * (l.length / 64))).length l.length = padding l.length l.length := by
    unfold padding; rw [hd, Nat.mod_mod]
  rw [hp]
  have e1 : l.drop (64 * (l.length / 64)) ++ padding l.length l.length = (pad l).drop (64 * (l.length / 64)) := by
    unfold pad; rw [List.drop_append_of_le_length (by omega)]
  have e2 : mixN (l.length / 64) start l = mixN (l.length / 64) start (pad l) := by
    unfold pad; rw [mixN_pre _ _ _ _ (by omega)]
  have e3 : (pad l).length / 64 = l.length / 64 + ((pad l).drop (64 * (l.length / 64))).length / 64 := by
    have : l.length ≤ (pad l).length := by unfold pad; rw [List.length_append]; omega
    rw [List.length_drop]; omega
  rw [e1, e2, e3, mixN_add]
end Sp
set_option maxRecDepth 100000 in
set_option maxHeartbeats 4000000 in
theorem sha_calls (l : Sp.Bs) (w : World) (hl : l.length ≤ 4000000000) (K : KeysAt w 4) :
    Calls Tryz.prog 203 #[.string (strOf l)] w fun e w' => e = .returned (digV (Sp.sha l)) ∧ Ext w w' := by
  have FF := Lib.hid (Sp.sha_split l)
  have hds := digC_size (Sp.sha l)
  have hsl := Sp.sha_len l
  obtain ⟨arr, ha⟩ : ∃ arr, arr = digC (Sp.sha l) := ⟨_, rfl⟩
  have HA := Lib.hid ha
  rw [← ha] at hds
  have w1 : arr.all (·.oneCell') = true := by rw [ha]; exact all_oneCell_toArray (bytes_one _)
  clear ha
  have tok2 : True := trivial
  rw [show digV (Sp.sha l) = .agg (digC (Sp.sha l)) from rfl, ← HA.out]
  go_enter Tryz.func203, Tryz.ntmps203
  go_wp2_with (have _t2 := tok2; ((with_reducible refine at_alloc (t := 110) rfl ?_); refine box_new rfl (cs := zero32) (t := 110) (by first | (go_simp; done) | (go_simp; rfl)) ?_; intro g2 w2 hg2 hx2 hb2; have H2 := Lib.hid hx2; have B2 := Lib.hid hb2; have GG2 := Lib.hid hg2; clear tok2 _t2 hx2 hb2 hg2))
  have K2 := K.ext (Ext.trans B2.out (Ext.alloc w2 (.cells #[.bool false, .int .u32 0, .int .u32 0, .int .u32 0, .int .u32 0, .int .u32 0, .int .u32 0, .int .u32 0, .int .u32 0, .slice none 0 0, .int .u64 0] 230)))
  refine (swrite_calls w2.heap.size l _ hl K2 (box_at w2 _ _)).mono ?_
  rintro e w3 ⟨rfl, hs3, ho3⟩
  have E3 := Lib.hid (Ext.from' (Ext.trans B2.out (Ext.alloc w2 _)) (ho3.below (show w.heap.size ≤ w2.heap.size from B2.out.size) (by have := B2.out.size; simp; omega)))
  have K3 := K.ext E3.out
  have H3 := Lib.hid (ho3.blk (H2.out.alloc _) (Nat.ne_of_lt H2.out.lt))
  have SV := Lib.hid (svalue_calls w2.heap.size _ _ l.length w3 (Sp.mixN_len _ _ _ rfl) (by rw [List.length_drop]; omega) (by omega) K3 hs3)
  rw [FF.out, ← HA.out] at SV
  clear hs3 ho3 K2 K3
  go_wp2_with fail
  refine SV.out.mono ?_
  rintro e w4 ⟨rfl, hb4⟩
  have H4 := Lib.hid (H3.out.below hb4)
  have E4 := Lib.hid (E3.out.trans hb4)
  clear hb4
  go_wp2_with ((with_reducible refine at_store (t := 110) rfl ?_); refine wpList_store_row rfl _ _ _ rfl g2 arr rfl rfl 110 _ H4.out (by rw [hds, hsl]; kernel_rfl) (by rw [hds, hsl]; rfl) w1 ?_)
  refine bodyPost_ret (results_cell_row rfl _ _ g2 110 arr (0, 0) _ rfl (setRow_heap _ _ _ _ _ _ H4.out) Tryz.underlying110 rfl (by rw [hds, hsl]; kernel_rfl)) rfl ?_
  exact ⟨rfl, below_setRow E4.out (by have := GG2.out; omega) _⟩
end Go.Proofs.YteiblfcehlibpaaGreatDoor
namespace Go.Proofs.YteiblfcehlibpaaGreatDoor
open Go.RowKit
def OwnT (w : World) (base : Nat) (e : TypeId) (v : Value) (n : Nat) (xs : List Value) : Prop :=
  xs.length = n ∧ ∃ g cap cur fz, v = .slice (some ⟨g, 0, none⟩) n cap ∧ base ≤ g ∧ w.heap[g]? = some (.cells cur e fz) ∧ (cur.size ≤ fz.1 ∨ fz.2 = 0) ∧ n ≤ cap ∧ cap ≤ maxLen ∧ cur.size = cap ∧ cur.toList.take n = xs
section
variable {P : Program} {ops : Array Oper} {rest : List Oper} {o : Oper} {a : Act} {Q : Exit → Act → World → Prop} {w : World}
end
theorem OwnT.read {w : World} {base n : Nat} {e : TypeId} {v : Value} {xs : List Value} (h : OwnT w base e v n xs) : ∃ A cap, v = .slice A n cap ∧ n ≤ cap ∧ cap ≤ maxLen ∧ Cells w A xs ∧ OwnT w base e (.slice A n cap) n xs := by
  obtain ⟨hl, g, cap, cur, fz, rfl, hbg, hg, hfz, hnc, hcm, hcs, htake⟩ := h
  refine ⟨_, cap, rfl, hnc, hcm, fun _ => ⟨g, 0, rfl, fun j u hu => ?_⟩, hl, g, cap, cur, fz, rfl, hbg, hg, hfz, hnc, hcm, hcs, htake⟩
  rw [cell_of_row w g (0 + j) cur e fz hg]
  rw [← htake, List.getElem?_take] at hu
  split at hu
  · simpa using hu
  · cases hu
end Go.Proofs.YteiblfcehlibpaaGreatDoor
namespace Go.Proofs.YteiblfcehlibpaaGreatDoor
open Go.RowKit
attribute [local go_sem] yUpon w_add w_xor w_and w_or w_wrap w_not
end Go.Proofs.YteiblfcehlibpaaGreatDoor
namespace Go.Proofs.YteiblfcehlibpaaGreatDoor
open Go.RowKit
attribute [local go_sem] yUpon w_add w_xor w_and w_or w_wrap w_shl8 w_shr3 w_shr10
end Go.Proofs.YteiblfcehlibpaaGreatDoor
namespace Go.Proofs.YteiblfcehlibpaaGreatDoor
open Go.RowKit
attribute [local go_sem] yUpon w_add w_xor w_and w_or w_wrap w_shl8 w_shr3 w_shr10
end Go.Proofs.YteiblfcehlibpaaGreatDoor
