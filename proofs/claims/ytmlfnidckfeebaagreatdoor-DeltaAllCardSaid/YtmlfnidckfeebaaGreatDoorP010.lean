/- Walks: vectors and leaves as bytes. Walks: versions and leaves as bytes. Walks: a text's digest. A slice of the call's own whose block bears a mark behind its end ('[]byte(s)'): one cell and one byte an element. Walks: nodes. -/
import Derived.Lib.FrozenHead
import Derived.Test.YtmlfnidckfeebaaGreatDoorP009
namespace Go.Proofs.YtmlfnidckfeebaaGreatDoor
open Go.RowKit Go.Shelf
set_option maxRecDepth 100000 in
set_option maxHeartbeats 2000000 in
theorem putvec1_calls (B g k : Nat) (x : Sp.W) (d : Sp.Dot) (w : World) (h : IsWr B g x w) (hk : isBlk w k 170 #[.pointer (some ⟨g, 0, none⟩)]) (hlen : x.1.length ≤ 10000000000000) (hBw : B ≤ w.heap.size) :
    Calls Tryz.prog 189 #[dotV d, .pointer (some ⟨k, 0, none⟩)] w fun e w' => e = .returned (.tuple #[]) ∧ WTo B g (Sp.wdot d x) w w' := by
  have C := Lib.hid (putdot_calls B g x d (w.alloc (.cells #[.int .i64 d.1, .int .i64 d.2] 68)) (h.below (Ext.alloc _ _)) hlen (by simp; omega))
  have HB := Lib.hid hBw
  have z := hk.below (Ext.alloc w (.cells #[.int .i64 d.1, .int .i64 d.2] 68))
  have c0 := (z.cell 0).trans rfl
  clear h hBw z hk
  go_enter Tryz.func189, Tryz.ntmps189
  go_wp2_with fail
  refine C.out.mono ?_
  rintro e w1 ⟨rfl, hw⟩
  have HW := Lib.hid hw
  clear hw
  go_wp2_with fail
  go_end0
  exact ⟨rfl, HW.out.wr, ((Below.refl B w).alloc HB.out _).trans HW.out.below, (Kept.below (Ext.alloc _ _)).trans HW.out.kept, by have := HW.out.size; rw [World.size_alloc] at this; omega⟩
set_option maxRecDepth 100000 in
set_option maxHeartbeats 4000000 in
theorem listdot_calls (w0 : World) (g k : Nat) (x : Sp.W) (l : List Sp.Dot) (A : Option Addr) (cap : Nat) (w : World) (E : Ext w0 w) (h : IsWr w0.heap.size g x w) (hD : Dots w0 A l) (hl : l.length ≤ 1000000) (hk : isBlk w k 170 #[.pointer (some ⟨g, 0, none⟩)]) (hlen : x.1.length ≤ 1000000000000) :
    Calls Tryz.prog 188 #[.pointer (some ⟨g, 0, none⟩), .slice A l.length cap, .func (.func 189) #[] #[.pointer (some ⟨k, 0, none⟩)]] w fun e w' => e = .returned (.tuple #[]) ∧ WTo w0.heap.size g (Sp.wdots l (Sp.wnum l.length x)) w w' := by
  have N := Lib.hid (wnum_calls w0.heap.size g x l.length w h (by omega) E.size)
  have HK := Lib.hid hk
  have hx1 := Sp.wnum_len (l.length : Int) x
  obtain ⟨y, hy⟩ : ∃ y, y = Sp.wnum (l.length : Int) x := ⟨_, rfl⟩
  rw [← hy] at N hx1 ⊢
  clear h hk hy
  go_enter Tryz.func188, Tryz.ntmps188
  go_wp2_with fail
  refine N.out.mono ?_
  rintro e w1 ⟨rfl, hw1, hb1, hk1, hs1⟩
  have W1 := Lib.hid (show WTo w0.heap.size g y w w1 from ⟨hw1, hb1, hk1, hs1⟩)
  clear hw1 hb1 hk1 hs1
  go_wp2_with fail
  go_loopw [14] (fun v14 wr => ∃ i : Nat, i ≤ l.length ∧ v14 = .int .i64 i ∧ WTo w0.heap.size g (Sp.wdots (l.take i) y) w wr) (fun v14 _ => l.length - (intOf v14).toNat)
  case atStart => exact ⟨0, Nat.zero_le _, rfl, W1.out⟩
  case round =>
    obtain ⟨i, hi, rfl, hw⟩ := hrel
    by_cases hlt : i < l.length
    · have eW := hw.ext E
      obtain ⟨ga, o, rfl, hc⟩ := (hD.ext eW).at (by omega)
      obtain ⟨c1, c2⟩ := hc i hlt
      have hyl := Sp.wdots_len (l.take i) y
      rw [List.length_take] at hyl
      have C := Lib.hid (putvec1_calls w0.heap.size g k (Sp.wdots (l.take i) y) l[i] (wr.alloc (.cells #[.int .i64 l[i].1, .int .i64 l[i].2] 68)) (hw.wr.below (Ext.alloc _ _)) ((hw.kept _ _ _ HK.out (by decide) (by decide)).below (Ext.alloc _ _)) (by omega) (by have := eW.size; simp; omega))
      have ST := Lib.hid (show Sp.wdots (l.take (i + 1)) y = Sp.wdot l[i] (Sp.wdots (l.take i) y) by rw [List.take_succ_eq_append_getElem hlt, Sp.wdots_snoc])
      have HW := Lib.hid hw
      have EW := Lib.hid eW.size
      clear hc hw eW hyl
      go_wp2_with (go_at_call 189; refine C.out.mono ?_; rintro e w2 ⟨rfl, hw2⟩; have H2 := Lib.hid hw2; clear hw2)
      go_roundw
      case rel =>
        refine ⟨i + 1, by omega, by go_num, by rw [ST.out]; exact H2.out.wr, ?_, ?_, ?_⟩
        · exact H2.out.below.from (HW.out.below.trans ((Below.refl _ _).alloc EW.out _))
        · exact HW.out.kept.trans ((Kept.below (Ext.alloc _ _)).trans H2.out.kept)
        · have := H2.out.size; have := HW.out.size; rw [World.size_alloc] at *; omega
      case measure => simp [intOf]; omega
    · obtain rfl : i = l.length := by omega
      rw [List.take_length] at hw
      have HW := Lib.hid hw
      clear hw
      go_wp2_with fail
      go_end0
      exact ⟨rfl, HW.out⟩
set_option maxRecDepth 100000 in
set_option maxHeartbeats 4000000 in
theorem putvec_calls (w0 : World) (g : Nat) (x : Sp.W) (l : List Sp.Dot) (A : Option Addr) (cap : Nat) (w : World) (E : Ext w0 w) (h : IsWr w0.heap.size g x w) (hD : Dots w0 A l) (hl : l.length ≤ 140737488351232) (hlen : x.1.length ≤ 100000000000) :
    Calls Tryz.prog 121 #[.pointer (some ⟨g, 0, none⟩), .slice A l.length cap] w fun e w' => e = .returned (.tuple #[]) ∧ WTo w0.heap.size g (Sp.wvec l x) w w' := by
  obtain ⟨W0, hW0⟩ : ∃ W0, W0 = w.alloc (.cells #[.pointer (some ⟨g, 0, none⟩)] 170) := ⟨_, rfl⟩
  have HBX := Lib.hid (show isBlk W0 w.heap.size 170 #[.pointer (some ⟨g, 0, none⟩)] by rw [hW0]; exact box_at _ _ _)
  have E0 := Lib.hid (show Ext w W0 by rw [hW0]; exact Ext.alloc _ _)
  have HW := Lib.hid hW0.symm
  have CK := Lib.hid (vcheck_calls l A cap W0 (hD.ext (E.trans E0.out)) hl)
  have HI := Lib.hid (h.below E0.out)
  clear hW0
  by_cases hz : Sp.vcheck l = 0
  · have F := Lib.hid (show Sp.wvec l x = Sp.wdots l (Sp.wnum l.length x) from if_neg (by simpa using hz))
    have L := Lib.hid fun W (e : Ext W0 W) => listdot_calls w0 g w.heap.size x l A cap W (E.trans (E0.out.trans e)) (HI.out.below e) hD (by have := Sp.vcheck_len hz; omega) (HBX.out.below e) (by omega)
    rw [hz] at CK
    clear hz h
    go_enter Tryz.func121, Tryz.ntmps121
    go_wp2_with fail
    rw [HW.out]
    refine CK.out.mono ?_
    rintro e w1 ⟨rfl, hb1⟩
    have c0 := ((HBX.out.below hb1).cell 0).trans rfl
    have B1 := Lib.hid hb1
    clear hb1
    go_wp2_with fail
    refine (L.out w1 B1.out).mono ?_
    rintro e w2 ⟨rfl, hw2⟩
    have H2 := Lib.hid hw2
    clear hw2 c0
    go_wp2_with fail
    go_end0
    have e1 := E0.out.trans B1.out
    exact ⟨rfl, by rw [F.out]; exact H2.out.wr, (Below.mono e1 E.size).trans H2.out.below, (Kept.below e1).trans H2.out.kept, Nat.le_trans e1.size H2.out.size⟩
  · have F := Lib.hid (show Sp.wvec l x = Sp.wfail (Sp.vcheck l) x from if_pos hz)
    have L := Lib.hid fun W (e : Ext W0 W) => wfail_calls w0.heap.size g x (Sp.vcheck l) W (HI.out.below e)
    have b1 : (Sp.vcheck l != 0) = true := by simpa using hz
    clear hz h
    go_enter Tryz.func121, Tryz.ntmps121
    go_wp2_with fail
    rw [HW.out]
    refine CK.out.mono ?_
    rintro e w1 ⟨rfl, hb1⟩
    have c0 := ((HBX.out.below hb1).cell 0).trans rfl
    have B1 := Lib.hid hb1
    clear hb1
    go_wp2_with fail
    refine (L.out w1 B1.out).mono ?_
    rintro e w2 ⟨rfl, hw2, hb2, hk2, hs2⟩
    go_wp2_with fail
    refine bodyPost_ret (results_none rfl _ _ _) rfl ?_
    have e1 := E0.out.trans B1.out
    exact ⟨rfl, by rw [F.out]; exact hw2, (Below.mono e1 E.size).trans hb2, (Kept.below e1).trans hk2, Nat.le_trans e1.size hs2⟩
end Go.Proofs.YtmlfnidckfeebaaGreatDoor
namespace Go.Proofs.YtmlfnidckfeebaaGreatDoor
open Go.RowKit Go.Shelf
set_option maxRecDepth 100000 in
set_option maxHeartbeats 4000000 in
theorem putver_calls (w0 : World) (g : Nat) (x : Sp.W) (v : Sp.Ver) (A : Option Addr) (cap : Nat) (w : World) (E : Ext w0 w) (h : IsWr w0.heap.size g x w) (hP : Past w0 A v) (hd : v.data.length ≤ 4000000000) (hlen : x.1.length ≤ 10000000000) :
    Calls Tryz.prog 251 #[.pointer (some ⟨g, 0, none⟩), verV A cap v] w fun e w' => e = .returned (.tuple #[]) ∧ WTo w0.heap.size g (Sp.wver v x) w w' := by
  obtain ⟨W0, hW0⟩ : ∃ W0, W0 = w.alloc (.cells (verC A cap v) 71) := ⟨_, rfl⟩
  have HBX := Lib.hid (show isBlk W0 w.heap.size 71 (verC A cap v) by rw [hW0]; exact box_at _ _ _)
  have E0 := Lib.hid (show Ext w W0 by rw [hW0]; exact Ext.alloc _ _)
  have HW := Lib.hid hW0.symm
  have l1 := Sp.wdot_len v.dot x
  have l2 := Sp.wvec_len v.past (Sp.wdot v.dot x)
  have l3 := Sp.wflag_len v.dead (Sp.wvec v.past (Sp.wdot v.dot x))
  have C1 := Lib.hid (putdot_calls w0.heap.size g x v.dot W0 (h.below E0.out) (by omega) (Nat.le_trans E.size E0.out.size))
  have C2 := Lib.hid fun W (e : Ext w0 W) (hw : IsWr w0.heap.size g (Sp.wdot v.dot x) W) => putvec_calls w0 g _ v.past A cap W e hw hP.1 hP.2 (by omega)
  have C3 := Lib.hid fun W (e : Ext w0 W) (hw : IsWr w0.heap.size g (Sp.wvec v.past (Sp.wdot v.dot x)) W) => wflag_calls w0.heap.size g _ v.dead W hw (by omega) e.size
  have C4 := Lib.hid fun W (e : Ext w0 W) (hw : IsWr w0.heap.size g (Sp.wflag v.dead (Sp.wvec v.past (Sp.wdot v.dot x))) W) => wtext_calls w0.heap.size g _ (strOf v.data) W hw (by omega) (by rw [strOf_size]; omega) e.size
  have EE := Lib.hid (E.trans E0.out)
  rw [strOf_data] at C4
  clear h hW0 hP l1 l2 l3
  go_enter Tryz.func251, Tryz.ntmps251
  go_wp2_with fail
  rw [HW.out]
  refine C1.out.mono ?_
  rintro e w1 ⟨rfl, hw1⟩
  have H1 := Lib.hid hw1
  have E1 := Lib.hid (hw1.ext EE.out)
  have z1 := hw1.kept _ _ _ HBX.out (by decide) (by decide)
  have c2 := (z1.cell 2).trans rfl
  have Z1 := Lib.hid z1
  clear hw1 z1
  go_wp2_with fail
  refine (C2.out w1 E1.out H1.out.wr).mono ?_
  rintro e w2 ⟨rfl, hw2⟩
  have H2 := Lib.hid hw2
  have E2 := Lib.hid (hw2.ext E1.out)
  have z2 := hw2.kept _ _ _ Z1.out (by decide) (by decide)
  have c3 := (z2.cell 3).trans rfl
  have Z2 := Lib.hid z2
  clear hw2 z2 c2
  go_wp2_with fail
  refine (C3.out w2 E2.out H2.out.wr).mono ?_
  rintro e w3 ⟨rfl, hw3⟩
  have H3 := Lib.hid hw3
  have E3 := Lib.hid (hw3.ext E2.out)
  have z3 := hw3.kept _ _ _ Z2.out (by decide) (by decide)
  have c4 := (z3.cell 4).trans rfl
  clear hw3 z3 c3
  go_wp2_with fail
  refine (C4.out w3 E3.out H3.out.wr).mono ?_
  rintro e w4 ⟨rfl, hw4, hb4, hk4, hs4⟩
  go_wp2_with fail
  go_end0
  exact ⟨rfl, hw4, (((Below.mono E0.out E.size).trans H1.out.below).trans (H2.out.below.trans H3.out.below)).trans hb4, (((Kept.below E0.out).trans H1.out.kept).trans (H2.out.kept.trans H3.out.kept)).trans hk4, Nat.le_trans E0.out.size (Nat.le_trans H1.out.size (Nat.le_trans H2.out.size (Nat.le_trans H3.out.size hs4)))⟩
set_option maxRecDepth 100000 in
set_option maxHeartbeats 2000000 in
theorem putleaf1_calls (w0 : World) (g k : Nat) (x : Sp.W) (v : Sp.Ver) (A : Option Addr) (cap : Nat) (w : World) (E : Ext w0 w) (h : IsWr w0.heap.size g x w) (hP : Past w0 A v) (hd : v.data.length ≤ 4000000000) (hk : isBlk w k 170 #[.pointer (some ⟨g, 0, none⟩)]) (hlen : x.1.length ≤ 10000000000) :
    Calls Tryz.prog 250 #[verV A cap v, .pointer (some ⟨k, 0, none⟩)] w fun e w' => e = .returned (.tuple #[]) ∧ WTo w0.heap.size g (Sp.wver v x) w w' := by
  have e0 := Ext.alloc w (.cells (verC A cap v) 71)
  have C := Lib.hid (putver_calls w0 g x v A cap (w.alloc (.cells (verC A cap v) 71)) (E.trans e0) (h.below e0) hP hd hlen)
  have HE := Lib.hid E.size
  have z := hk.below e0
  have c0 := (z.cell 0).trans rfl
  clear h z hk hP e0
  go_enter Tryz.func250, Tryz.ntmps250
  go_wp2_with fail
  refine C.out.mono ?_
  rintro e w1 ⟨rfl, hw⟩
  have HW := Lib.hid hw
  clear hw
  go_wp2_with fail
  go_end0
  exact ⟨rfl, HW.out.wr, ((Below.refl _ w).alloc HE.out _).trans HW.out.below, (Kept.below (Ext.alloc _ _)).trans HW.out.kept, by have := HW.out.size; rw [World.size_alloc] at this; omega⟩
set_option maxRecDepth 100000 in
set_option maxHeartbeats 4000000 in
theorem listver_calls (w0 : World) (g k : Nat) (x : Sp.W) (l : List Sp.Ver) (A : Option Addr) (cap : Nat) (w : World) (E : Ext w0 w) (h : IsWr w0.heap.size g x w) (hD : Vers w0 A l) (hl : l.length ≤ 64) (hd : ∀ v ∈ l, v.data.length ≤ 48) (hk : isBlk w k 170 #[.pointer (some ⟨g, 0, none⟩)]) (hlen : x.1.length ≤ 1000000000) :
    Calls Tryz.prog 249 #[.pointer (some ⟨g, 0, none⟩), .slice A l.length cap, .func (.func 250) #[] #[.pointer (some ⟨k, 0, none⟩)]] w fun e w' => e = .returned (.tuple #[]) ∧ WTo w0.heap.size g (Sp.wvers l (Sp.wnum l.length x)) w w' := by
  have N := Lib.hid (wnum_calls w0.heap.size g x l.length w h (by omega) E.size)
  have HK := Lib.hid hk
  have hx1 := Sp.wnum_len (l.length : Int) x
  obtain ⟨y, hy⟩ : ∃ y, y = Sp.wnum (l.length : Int) x := ⟨_, rfl⟩
  rw [← hy] at N hx1 ⊢
  clear h hk hy
  go_enter Tryz.func249, Tryz.ntmps249
  go_wp2_with fail
  refine N.out.mono ?_
  rintro e w1 ⟨rfl, hw1, hb1, hk1, hs1⟩
  have W1 := Lib.hid (show WTo w0.heap.size g y w w1 from ⟨hw1, hb1, hk1, hs1⟩)
  clear hw1 hb1 hk1 hs1
  go_wp2_with fail
  go_loopw [14] (fun v14 wr => ∃ i : Nat, i ≤ l.length ∧ v14 = .int .i64 i ∧ WTo w0.heap.size g (Sp.wvers (l.take i) y) w wr) (fun v14 _ => l.length - (intOf v14).toNat)
  case atStart => exact ⟨0, Nat.zero_le _, rfl, W1.out⟩
  case round =>
    obtain ⟨i, hi, rfl, hw⟩ := hrel
    by_cases hlt : i < l.length
    · have eW := hw.ext E
      obtain ⟨ga, o, rfl, hc⟩ := hD.at (by omega)
      obtain ⟨A', c', hvc, hp⟩ := hc i hlt
      obtain ⟨c0, c1, c2, c3, c4⟩ := hvc.ext eW
      have hyl := Sp.wvers_len (l.take i) 48 (fun v hv => hd v (List.mem_of_mem_take hv)) y
      rw [List.length_take] at hyl
      have hyb : (661 + 48) * min i l.length ≤ (661 + 48) * 64 := Nat.mul_le_mul_left _ (by omega)
      have e0 := Ext.alloc wr (.cells (verC A' c' l[i]) 71)
      have hdi := hd l[i] (List.getElem_mem hlt)
      have C := Lib.hid (putleaf1_calls w0 g k (Sp.wvers (l.take i) y) l[i] A' c' (wr.alloc (.cells (verC A' c' l[i]) 71)) (eW.trans e0) (hw.wr.below e0) hp (by omega) ((hw.kept _ _ _ HK.out (by decide) (by decide)).below e0) (by omega))
      have ST := Lib.hid (show Sp.wvers (l.take (i + 1)) y = Sp.wver l[i] (Sp.wvers (l.take i) y) by rw [List.take_succ_eq_append_getElem hlt, Sp.wvers_snoc])
      have HW := Lib.hid hw
      have EW := Lib.hid eW.size
      clear hc hw eW hyl hyb hvc hp e0 hdi
      go_wp2_with (go_at_call 250; refine C.out.mono ?_; rintro e w2 ⟨rfl, hw2⟩; have H2 := Lib.hid hw2; clear hw2)
      go_roundw
      case rel =>
        refine ⟨i + 1, by omega, by go_num, by rw [ST.out]; exact H2.out.wr, ?_, ?_, ?_⟩
        · exact H2.out.below.from (HW.out.below.trans ((Below.refl _ _).alloc EW.out _))
        · exact HW.out.kept.trans ((Kept.below (Ext.alloc _ _)).trans H2.out.kept)
        · have := H2.out.size; have := HW.out.size; rw [World.size_alloc] at *; omega
      case measure => simp [intOf]; omega
    · obtain rfl : i = l.length := by omega
      rw [List.take_length] at hw
      have HW := Lib.hid hw
      clear hw
      go_wp2_with fail
      go_end0
      exact ⟨rfl, HW.out⟩
set_option maxRecDepth 100000 in
set_option maxHeartbeats 4000000 in
theorem putleaf_calls (w0 : World) (g : Nat) (x : Sp.W) (l : List Sp.Ver) (A : Option Addr) (cap : Nat) (w : World) (E : Ext w0 w) (h : IsWr w0.heap.size g x w) (hD : Vers w0 A l) (hlen : x.1.length ≤ 100000000) :
    Calls Tryz.prog 192 #[.pointer (some ⟨g, 0, none⟩), .slice A l.length cap] w fun e w' => e = .returned (.tuple #[]) ∧ WTo w0.heap.size g (Sp.wleaf l x) w w' := by
  obtain ⟨W0, hW0⟩ : ∃ W0, W0 = w.alloc (.cells #[.pointer (some ⟨g, 0, none⟩)] 170) := ⟨_, rfl⟩
  have HBX := Lib.hid (show isBlk W0 w.heap.size 170 #[.pointer (some ⟨g, 0, none⟩)] by rw [hW0]; exact box_at _ _ _)
  have E0 := Lib.hid (show Ext w W0 by rw [hW0]; exact Ext.alloc _ _)
  have HW := Lib.hid hW0.symm
  have CK := Lib.hid (leaf_calls l A cap W0 (hD.ext (E.trans E0.out)))
  have HI := Lib.hid (h.below E0.out)
  clear hW0
  by_cases hz : Sp.leaf l = 0
  · have F := Lib.hid (show Sp.wleaf l x = Sp.wvers l (Sp.wnum l.length x) from if_neg (by simpa using hz))
    have L := Lib.hid fun W (e : Ext W0 W) => listver_calls w0 g w.heap.size x l A cap W (E.trans (E0.out.trans e)) (HI.out.below e) hD (Sp.leaf_ok hz).1 (Sp.leaf_data hz) (HBX.out.below e) (by omega)
    rw [hz] at CK
    clear hz h
    go_enter Tryz.func192, Tryz.ntmps192
    go_wp2_with fail
    rw [HW.out]
    refine CK.out.mono ?_
    rintro e w1 ⟨rfl, hb1⟩
    have c0 := ((HBX.out.below hb1).cell 0).trans rfl
    have B1 := Lib.hid hb1
    clear hb1
    go_wp2_with fail
    refine (L.out w1 B1.out).mono ?_
    rintro e w2 ⟨rfl, hw2⟩
    have H2 := Lib.hid hw2
    clear hw2 c0
    go_wp2_with fail
    go_end0
    have e1 := E0.out.trans B1.out
    exact ⟨rfl, by rw [F.out]; exact H2.out.wr, (Below.mono e1 E.size).trans H2.out.below, (Kept.below e1).trans H2.out.kept, Nat.le_trans e1.size H2.out.size⟩
  · have F := Lib.hid (show Sp.wleaf l x = Sp.wfail (Sp.leaf l) x from if_pos hz)
    have L := Lib.hid fun W (e : Ext W0 W) => wfail_calls w0.heap.size g x (Sp.leaf l) W (HI.out.below e)
    have b1 : (Sp.leaf l != 0) = true := by simpa using hz
    clear hz h
    go_enter Tryz.func192, Tryz.ntmps192
    go_wp2_with fail
    rw [HW.out]
    refine CK.out.mono ?_
    rintro e w1 ⟨rfl, hb1⟩
    have c0 := ((HBX.out.below hb1).cell 0).trans rfl
    have B1 := Lib.hid hb1
    clear hb1
    go_wp2_with fail
    refine (L.out w1 B1.out).mono ?_
    rintro e w2 ⟨rfl, hw2, hb2, hk2, hs2⟩
    go_wp2_with fail
    refine bodyPost_ret (results_none rfl _ _ _) rfl ?_
    have e1 := E0.out.trans B1.out
    exact ⟨rfl, by rw [F.out]; exact hw2, (Below.mono e1 E.size).trans hb2, (Kept.below e1).trans hk2, Nat.le_trans e1.size hs2⟩
end Go.Proofs.YtmlfnidckfeebaaGreatDoor
namespace Go.Proofs.YtmlfnidckfeebaaGreatDoor
open Go.RowKit
namespace Sp
theorem sha_split (l : Bs) : digest (mixN ((l.drop (64 * (l.length / 64)) ++ padding (l.drop (64 * (l.length / 64))).length l.length).length / 64) (mixN (l.length / 64) start l) (l.drop (64 * (l.length / 64)) ++ padding (l.drop (64 * (l.length / 64))).length l.length)) = sha l := by
  unfold sha
  congr 1
  have hd : (l.drop (64 * (l.length / 64))).length = l.length % 64 := by rw [List.length_drop]; omega
  have hp : padding (l.drop (64 * (l.length / 64))).length l.length = padding l.length l.length := by
    unfold padding; rw [hd, Nat.mod_mod]
  rw [hp]
  have e1 : l.drop (64 * (l.length / 64)) ++ padding l.length l.length = (pad l).drop (64 * (l.length / 64)) := by
    unfold pad; rw [List.drop_append_of_le_length (by omega)]
  have e2 : mixN (l.length / 64) start l = mixN (l.length / 64) start (pad l) := by
    unfold pad; rw [mixN_pre _ _ _ _ (by omega)]
  have e3 : (pad l).length / 64 = l.length / 64 + ((pad l).drop (64 * (l.length / 64))).length / 64 := by
    have : l.length ≤ (pad l).length := by unfold pad; rw [List.length_append]; omega
    rw [List.length_drop]; omega
  rw [e1, e2, e3, mixN_add]
end Sp
set_option maxRecDepth 100000 in
set_option maxHeartbeats 4000000 in
theorem sha_calls (l : Sp.Bs) (w : World) (hl : l.length ≤ 4000000000) (K : KeysAt w 2) :
    Calls Tryz.prog 262 #[.string (strOf l)] w fun e w' => e = .returned (digV (Sp.sha l)) ∧ Ext w w' := by
  have FF := Lib.hid (Sp.sha_split l)
  have hds := digC_size (Sp.sha l)
  have hsl := Sp.sha_len l
  obtain ⟨arr, ha⟩ : ∃ arr, arr = digC (Sp.sha l) := ⟨_, rfl⟩
  have HA := Lib.hid ha
  rw [← ha] at hds
  have w1 : arr.all (·.oneCell') = true := by rw [ha]; exact all_oneCell_toArray (bytes_one _)
  clear ha
  have tok2 : True := trivial
  rw [show digV (Sp.sha l) = .agg (digC (Sp.sha l)) from rfl, ← HA.out]
  go_enter Tryz.func262, Tryz.ntmps262
  go_wp2_with (have _t2 := tok2; ((with_reducible refine at_alloc (t := 36) rfl ?_); refine box_new rfl (cs := zero32) (t := 36) (by first | (go_simp; done) | (go_simp; rfl)) ?_; intro g2 w2 hg2 hx2 hb2; have H2 := Lib.hid hx2; have B2 := Lib.hid hb2; have GG2 := Lib.hid hg2; clear tok2 _t2 hx2 hb2 hg2))
  have K2 := K.ext (Ext.trans B2.out (Ext.alloc w2 (.cells #[.bool false, .int .u32 0, .int .u32 0, .int .u32 0, .int .u32 0, .int .u32 0, .int .u32 0, .int .u32 0, .int .u32 0, .slice none 0 0, .int .u64 0] 325)))
  refine (swrite_calls w2.heap.size l _ hl K2 (box_at w2 _ _)).mono ?_
  rintro e w3 ⟨rfl, hs3, ho3⟩
  have E3 := Lib.hid (Ext.from' (Ext.trans B2.out (Ext.alloc w2 _)) (ho3.below (show w.heap.size ≤ w2.heap.size from B2.out.size) (by have := B2.out.size; simp; omega)))
  have K3 := K.ext E3.out
  have H3 := Lib.hid (ho3.blk (H2.out.alloc _) (Nat.ne_of_lt H2.out.lt))
  have SV := Lib.hid (svalue_calls w2.heap.size _ _ l.length w3 (Sp.mixN_len _ _ _ rfl) (by rw [List.length_drop]; omega) (by omega) K3 hs3)
  rw [FF.out, ← HA.out] at SV
  clear hs3 ho3 K2 K3
  go_wp2_with fail
  refine SV.out.mono ?_
  rintro e w4 ⟨rfl, hb4⟩
  have H4 := Lib.hid (H3.out.below hb4)
  have E4 := Lib.hid (E3.out.trans hb4)
  clear hb4
  go_wp2_with ((with_reducible refine at_store (t := 36) rfl ?_); refine wpList_store_row rfl _ _ _ rfl g2 arr rfl rfl 36 _ H4.out (by rw [hds, hsl]; kernel_rfl) (by rw [hds, hsl]; rfl) w1 ?_)
  refine bodyPost_ret (results_cell_row rfl _ _ g2 36 arr (0, 0) _ rfl (setRow_heap _ _ _ _ _ _ H4.out) Tryz.underlying36 rfl (by rw [hds, hsl]; kernel_rfl)) rfl ?_
  exact ⟨rfl, below_setRow E4.out (by have := GG2.out; omega) _⟩
end Go.Proofs.YtmlfnidckfeebaaGreatDoor
namespace Go.Proofs.YtmlfnidckfeebaaGreatDoor
open Go.RowKit
def OwnT (w : World) (base : Nat) (e : TypeId) (v : Value) (n : Nat) (xs : List Value) : Prop :=
  xs.length = n ∧ ∃ g cap cur fz, v = .slice (some ⟨g, 0, none⟩) n cap ∧ base ≤ g ∧ w.heap[g]? = some (.cells cur e fz) ∧ (cur.size ≤ fz.1 ∨ fz.2 = 0) ∧ n ≤ cap ∧ cap ≤ maxLen ∧ cur.size = cap ∧ cur.toList.take n = xs
section
variable {P : Program} {ops : Array Oper} {rest : List Oper} {o : Oper} {a : Act} {Q : Exit → Act → World → Prop} {w : World}
end
theorem OwnT.read {w : World} {base n : Nat} {e : TypeId} {v : Value} {xs : List Value} (h : OwnT w base e v n xs) : ∃ A cap, v = .slice A n cap ∧ n ≤ cap ∧ cap ≤ maxLen ∧ Cells w A xs ∧ OwnT w base e (.slice A n cap) n xs := by
  obtain ⟨hl, g, cap, cur, fz, rfl, hbg, hg, hfz, hnc, hcm, hcs, htake⟩ := h
  refine ⟨_, cap, rfl, hnc, hcm, fun _ => ⟨g, 0, rfl, fun j u hu => ?_⟩, hl, g, cap, cur, fz, rfl, hbg, hg, hfz, hnc, hcm, hcs, htake⟩
  rw [cell_of_row w g (0 + j) cur e fz hg]
  rw [← htake, List.getElem?_take] at hu
  split at hu
  · simpa using hu
  · cases hu
end Go.Proofs.YtmlfnidckfeebaaGreatDoor
namespace Go.Proofs.YtmlfnidckfeebaaGreatDoor
open Go.RowKit Go.Shelf
attribute [local go_sem] yUpon strOf_toList
theorem egn1 : ∀ args w, (callFunc 310 args).run Tryz.prog w = .ok (.enter 310 args) w := enters_of Tryz.func310 (by kernel_rfl) rfl
theorem egn2 : ∀ args w, (callFunc 311 args).run Tryz.prog w = .ok (.enter 311 args) w := enters_of Tryz.func311 (by kernel_rfl) rfl
abbrev nodeA (A : Option Addr) (n cap : Nat) (B : Option Addr) (m cap' : Nat) : Array Value := #[.slice A n cap, .slice B m cap']
set_option maxRecDepth 100000 in
set_option maxHeartbeats 4000000 in
theorem nc1_calls (n : Sp.Node) (A B : Option Addr) (cap cap' g : Nat) (w : World) (hV : Vers w A n.1) (hx : isBlk w g 116 (nodeA A n.1.length cap B n.2.length cap')) :
    Calls Tryz.prog 310 #[.pointer (some ⟨g, 0, none⟩)] w fun e w' => e = .returned (.int .i64 (Sp.leaf n.1)) ∧ Ext w w' := by
  have f0 := (hx.cell 0).trans rfl
  have C := Lib.hid (leaf_calls n.1 A cap w hV)
  go_enter Tryz.func310, Tryz.ntmps310
  go_wp2_with fail
  refine C.out.mono ?_
  rintro e w1 ⟨rfl, hb⟩
  go_wp2
  go_ret
  exact ⟨rfl, hb⟩
set_option maxRecDepth 100000 in
set_option maxHeartbeats 4000000 in
theorem nc2_calls (n : Sp.Node) (A B : Option Addr) (cap cap' g : Nat) (w : World) (hK : Kids w B n.2) (hx : isBlk w g 116 (nodeA A n.1.length cap B n.2.length cap')) :
    Calls Tryz.prog 311 #[.pointer (some ⟨g, 0, none⟩)] w fun e w' => e = .returned (.int .i64 (Sp.kcheck n.2)) ∧ Ext w w' := by
  have f0 := (hx.cell 1).trans rfl
  have C := Lib.hid (kids_calls n.2 B cap' w hK)
  go_enter Tryz.func311, Tryz.ntmps311
  go_wp2_with fail
  refine C.out.mono ?_
  rintro e w1 ⟨rfl, hb⟩
  go_wp2
  go_ret
  exact ⟨rfl, hb⟩
set_option maxRecDepth 100000 in
set_option maxHeartbeats 4000000 in
theorem nfirst_calls (n : Sp.Node) (A B : Option Addr) (cap cap' g s : Nat) (w : World) (hV : Vers w A n.1) (hK : Kids w B n.2) (hx : isBlk w g 116 (nodeA A n.1.length cap B n.2.length cap'))
    (h0 : w.cell? ⟨s, 0, none⟩ = some (.func (.func 310) #[] #[.pointer (some ⟨g, 0, none⟩)]))
    (h1 : w.cell? ⟨s, 1, none⟩ = some (.func (.func 311) #[] #[.pointer (some ⟨g, 0, none⟩)])) :
    Calls Tryz.prog 309 #[.slice (some ⟨s, 0, none⟩) 2 2] w fun e w' => e = .returned (.int .i64 (Sp.ncheck n)) ∧ Ext w w' := by
  have eg1 := egn1
  have eg2 := egn2
  go_enter Tryz.func309, Tryz.ntmps309
  go_wp2
  go_loopw [8] (fun v8 wr => ∃ k : Nat, k ≤ 2 ∧ v8 = .int .i64 k ∧ Ext w wr ∧ (0 < k → Sp.leaf n.1 = 0) ∧ (1 < k → Sp.kcheck n.2 = 0)) (fun v8 _ => 2 - (intOf v8).toNat)
  case atStart => exact ⟨0, by decide, rfl, Ext.refl _, fun h => by omega, fun h => by omega⟩
  case round =>
    obtain ⟨k, hk, rfl, hb, hl, hkk⟩ := hrel
    rcases k with _ | _ | _ | k
    · rw [show ((0 : Nat) : Int) = 0 from rfl]
      have c0 := hb.cell h0
      have C := Lib.hid (nc1_calls n A B cap cap' g wr (hV.ext hb) (hx.below hb))
      have HB := Lib.hid hb
      clear hb hl hkk
      go_wp2_with fail
      refine C.out.mono ?_
      rintro e w1 ⟨rfl, hb1⟩
      by_cases hz : Sp.leaf n.1 = 0
      · rw [hz]
        go_wp2
        refine ⟨⟨1, by omega, rfl, HB.out.trans hb1, fun _ => hz, fun h => by omega⟩, by simp [intOf]⟩
      · have F := Lib.hid (show Sp.ncheck n = Sp.leaf n.1 from if_pos hz)
        go_wp2
        go_ret
        exact ⟨ret_int F.out.symm, HB.out.trans hb1⟩
    · rw [show ((0 + 1 : Nat) : Int) = 1 from rfl]
      have hz := hl (by omega)
      have c0 := hb.cell h1
      have C := Lib.hid (nc2_calls n A B cap cap' g wr (hK.ext hb) (hx.below hb))
      have HB := Lib.hid hb
      clear hb hl hkk
      have F := Lib.hid (show Sp.ncheck n = Sp.kcheck n.2 from if_neg (by simpa using hz))
      go_wp2_with fail
      refine C.out.mono ?_
      rintro e w1 ⟨rfl, hb1⟩
      by_cases hy : Sp.kcheck n.2 = 0
      · rw [hy]
        go_wp2
        refine ⟨⟨2, by omega, rfl, HB.out.trans hb1, fun _ => hz, fun _ => hy⟩, by simp [intOf]⟩
      · go_wp2
        go_ret
        exact ⟨ret_int F.out.symm, HB.out.trans hb1⟩
    · rw [show ((0 + 1 + 1 : Nat) : Int) = 2 from rfl]
      have F := Lib.hid (show Sp.ncheck n = 0 by unfold Sp.ncheck; rw [if_neg (by rw [hl (by omega)]; simp), hkk (by omega)])
      go_wp2
      go_ret
      exact ⟨ret_int F.out.symm, hb⟩
    · omega
set_option maxRecDepth 100000 in
set_option maxHeartbeats 4000000 in
theorem ncheck_calls (n : Sp.Node) (A B : Option Addr) (cap cap' : Nat) (w : World) (hV : Vers w A n.1) (hK : Kids w B n.2) :
    Calls Tryz.prog 288 #[nodeV A n.1.length cap B n.2.length cap'] w fun e w' => e = .returned (.int .i64 (Sp.ncheck n)) ∧ Ext w w' := by
  obtain ⟨W0, hW0⟩ : ∃ W0, W0 = w.alloc (.cells (nodeA A n.1.length cap B n.2.length cap') 116) := ⟨_, rfl⟩
  have E0 := Lib.hid (show Ext w W0 by rw [hW0]; exact Ext.alloc _ _)
  have X0 := Lib.hid (show isBlk W0 w.heap.size 116 (nodeA A n.1.length cap B n.2.length cap') by rw [hW0]; exact box_at _ _ _)
  have HW := Lib.hid hW0.symm
  have SZ := Lib.hid (show W0.heap.size = w.heap.size + 1 by rw [hW0]; simp)
  clear hW0
  go_enter Tryz.func288, Tryz.ntmps288
  go_wp2_with fail
  have X1 := X0.out.below (Ext.alloc W0 (.cells #[.func (.func 310) #[] #[.pointer (some ⟨w.heap.size, 0, none⟩)], .func (.func 311) #[] #[.pointer (some ⟨w.heap.size, 0, none⟩)]] 252))
  have Y1 := box_at W0 #[.func (.func 310) #[] #[.pointer (some ⟨w.heap.size, 0, none⟩)], .func (.func 311) #[] #[.pointer (some ⟨w.heap.size, 0, none⟩)]] 252
  have E1 := Lib.hid (E0.out.trans (Ext.alloc W0 (.cells #[.func (.func 310) #[] #[.pointer (some ⟨w.heap.size, 0, none⟩)], .func (.func 311) #[] #[.pointer (some ⟨w.heap.size, 0, none⟩)]] 252)))
  rw [HW.out]
  rw [SZ.out] at Y1
  refine (nfirst_calls n A B cap cap' w.heap.size (w.heap.size + 1) _ (hV.ext E1.out) (hK.ext E1.out) X1 ((Y1.cell 0).trans rfl) ((Y1.cell 1).trans rfl)).mono ?_
  rintro e w2 ⟨rfl, hb2⟩
  go_wp2
  go_ret
  exact ⟨rfl, E1.out.trans hb2⟩
set_option maxRecDepth 100000 in
set_option maxHeartbeats 4000000 in
theorem nbytes_calls (n : Sp.Node) (A B : Option Addr) (cap cap' : Nat) (w : World) (hV : Vers w A n.1) (hK : Kids w B n.2) :
    Calls Tryz.prog 261 #[nodeV A n.1.length cap B n.2.length cap'] w fun e w' => e = .returned (.tuple #[.string (strOf (Sp.nbytes n).1), .int .i64 (Sp.nbytes n).2]) ∧ Ext w w' := by
  obtain ⟨W0, hW0⟩ : ∃ W0, W0 = w.alloc (.cells (nodeA A n.1.length cap B n.2.length cap') 116) := ⟨_, rfl⟩
  have E0 := Lib.hid (show Ext w W0 by rw [hW0]; exact Ext.alloc _ _)
  obtain ⟨g0, hg0⟩ : ∃ g0, g0 = w.heap.size := ⟨_, rfl⟩
  have X0 := Lib.hid (show isBlk W0 g0 116 (nodeA A n.1.length cap B n.2.length cap') by rw [hW0, hg0]; exact box_at _ _ _)
  have HW := Lib.hid hW0.symm
  have CK := Lib.hid (ncheck_calls n A B cap cap' W0 (hV.ext E0.out) (hK.ext E0.out))
  clear hW0
  go_enter Tryz.func261, Tryz.ntmps261
  go_wp2_with fail
  rw [HW.out, ← hg0]
  clear hg0
  refine CK.out.mono ?_
  rintro e W1 ⟨rfl, hb1⟩
  have E1 := Lib.hid (E0.out.trans hb1)
  have X1 := Lib.hid (X0.out.below hb1)
  have V1 := Lib.hid (hV.ext E1.out)
  have K1 := Lib.hid (hK.ext E1.out)
  clear hb1 hV hK
  by_cases hc : Sp.ncheck n = 0
  · rw [hc]
    have NB := Lib.hid (show Sp.nbytes n = Sp.wdone (Sp.wnode n) from if_neg (by simpa using hc))
    obtain ⟨hleaf, hk128, hkgo⟩ := Sp.ncheck_ok hc
    have Y0 := Lib.hid (show IsWr W1.heap.size W1.heap.size ([], 0) (W1.alloc (.cells #[.pointer none, .slice none 0 0, .int .i64 0] 176)) from
      ⟨Nat.le_refl _, .pointer none, .slice none 0 0, .inl rfl, heap_alloc_new _ _, World.ownsRow_nil _ _ _ _, by simp [Value.ownBlock]⟩)
    have f0 := ((X1.out.alloc (.cells #[.pointer none, .slice none 0 0, .int .i64 0] 176)).cell 0).trans rfl
    go_wp2_with fail
    refine (putleaf_calls W1 W1.heap.size ([], 0) n.1 A cap _ (Ext.alloc _ _) Y0.out V1.out (by simp)).mono ?_
    rintro e w2 ⟨rfl, t2⟩
    have B2 := Lib.hid (t2.ext (Ext.alloc _ _))
    have L2 := Lib.hid (Sp.wleaf_len n.1 ([], 0))
    have f1 := ((X1.out.below B2.out).cell 1).trans rfl
    have W2 := Lib.hid t2.wr
    clear t2 f0
    go_wp2_with fail
    refine (wnum_calls W1.heap.size W1.heap.size _ (n.2.length : Int) w2 W2.out (by have := L2.out; simp at this; omega) B2.out.size).mono ?_
    rintro e w3 ⟨rfl, hw3, hb3, _, hs3⟩
    have B3 := Lib.hid (show Below W1.heap.size W1 w3 from hb3.from B2.out)
    have f1 := ((X1.out.below B3.out).cell 1).trans rfl
    obtain ⟨x0, hx0⟩ : ∃ x0, x0 = Sp.wnum n.2.length (Sp.wleaf n.1 ([], 0)) := ⟨_, rfl⟩
    have L3 := Lib.hid (show x0.1.length ≤ 50000 by
      have h1 := Sp.wnum_len (n.2.length : Int) (Sp.wleaf n.1 ([], 0)); have h2 := L2.out; rw [hx0]; simp at h2; omega)
    rw [← hx0] at hw3
    have W3 := Lib.hid hw3
    have NN := Lib.hid (show Sp.wnode n = Sp.wkids n.2 x0 by rw [hx0]; rfl)
    have NS := Lib.hid (Sp.wnode_some n)
    obtain ⟨l, hl⟩ : ∃ l, l = n.2 := ⟨_, rfl⟩
    rw [← hl] at NN K1 hk128 f1 X1 ⊢
    clear hb3 hw3 hx0 hl B2 W2 hs3
    go_wp2_with fail
    clear f1
    obtain ⟨B, hB⟩ : ∃ B, B = W1.heap.size := ⟨_, rfl⟩
    rw [← hB] at W3 B3 ⊢
    have HBB := Lib.hid hB
    clear hB
    go_loopw [27] (fun v27 wr => ∃ k : Nat, k ≤ l.length ∧ v27 = .int .i64 k ∧ IsWr B B (Sp.wkids (l.take k) x0) wr ∧ Below B W1 wr) (fun v27 _ => l.length - (intOf v27).toNat)
    case atStart => exact ⟨0, Nat.zero_le _, rfl, W3.out, B3.out⟩
    case round =>
      obtain ⟨k, hk, rfl, hw, hb⟩ := hrel
      have hb' : Ext W1 wr := by have := hb; rwa [HBB.out] at this
      by_cases hlt : k < l.length
      · obtain ⟨g, o, rfl, hat⟩ := (K1.out.ext hb').at (Nat.lt_of_le_of_lt (Nat.zero_le _) hlt)
        have hok := K1.out.2 l[k] (List.getElem_mem hlt)
        have hR := hat k hlt
        have tk := List.take_succ_eq_append_getElem hlt
        have LK := Sp.wkids_len 1000000 32 (l.take k) x0 (fun j hj => by have := K1.out.2 j (List.mem_of_mem_take hj); omega)
        rw [List.length_take, Nat.min_eq_left hk] at LK
        have LK' := Lib.hid (show (Sp.wkids (l.take k) x0).1.length ≤ 1000000000 by
          have := L3.out
          have : k * (1000000 + 32 + 20) ≤ 128 * (1000000 + 32 + 20) := Nat.mul_le_mul_right _ (by omega)
          omega)
        obtain ⟨kd, hkd⟩ : ∃ kd, kd = l[k] := ⟨_, rfl⟩
        rw [← hkd] at hok hR tk
        have HR := Lib.hid hR
        have TK := Lib.hid (show Sp.wkids (l.take (k + 1)) x0 = Sp.wkid kd (Sp.wkids (l.take k) x0) by rw [tk, Sp.wkids_snoc])
        obtain ⟨xk, hxk⟩ : ∃ xk, xk = Sp.wkids (l.take k) x0 := ⟨_, rfl⟩
        rw [← hxk] at hw TK LK'
        have KL := kidL_len kd hok.1
        have ka : ((kidL kd).toArray).size = 33 := by simp [KL]
        have k0 : ((kidL kd).toArray)[0]? = some (.string (strOf kd.1)) := rfl
        have HWR := Lib.hid hw
        have HB := Lib.hid hb
        have HB' := Lib.hid hb'
        clear hR hb hat hkd hw tk LK hxk hb'
        have tok2 : True := trivial
        have tok3 : True := trivial
        have tok4 : True := trivial
        go_wp2_with (first
          | (have _t2 := tok2; (with_reducible refine at_load (t := 268) rfl ?_); refine wpList_load_mid rfl _ _ rfl g (o + k * 33) rfl (kidL kd) _ HR.out Tryz.underlying268 rfl (by rw [KL]; kernel_rfl) ?_; clear tok2 _t2)
          | (have _t3 := tok3; ((with_reducible refine at_alloc (t := 268) rfl ?_); refine box_new rfl (cs := kid0) (t := 268) (by first | (go_simp; done) | (go_simp; rfl)) ?_; intro g4 w4 hg4 hx4 hb4; have H4 := Lib.hid hx4; have B4 := Lib.hid hb4; have GG4 := Lib.hid hg4; clear tok3 _t3 hx4 hb4 hg4))
          | (have _t4 := tok4; ((with_reducible refine at_store (t := 268) rfl ?_); refine wpList_store_row rfl _ _ _ rfl g4 (kidL kd).toArray rfl rfl 268 _ H4.out (by rw [ka]; kernel_rfl) (by rw [ka]; rfl) (kid_one kd) ?_; obtain ⟨w5, hw5⟩ : ∃ w5, w5 = w4.setRow g4 (kidL kd).toArray := ⟨_, rfl⟩; rw [← hw5]; have B5 := Lib.hid (show Ext wr w5 by rw [hw5]; exact below_setRow B4.out GG4.out _); have X5 := Lib.hid (show isBlk w5 g4 268 (kidL kd).toArray by rw [hw5]; exact setRow_heap _ _ _ _ _ _ H4.out); have f0 := (X5.out.cell 0).trans k0; clear hw5 tok4 _t4)))
        have S5 := Lib.hid (show B ≤ w5.heap.size by have := B5.out.size; have := HB.out.size; have := HBB.out; omega)
        refine (wtext_calls B B xk (strOf kd.1) w5 (HWR.out.below B5.out) (by have := LK'.out; omega) (by rw [strOf_size]; omega) S5.out).mono ?_
        rintro e w6 ⟨rfl, hw6, hb6, hk6, hs6⟩
        rw [strOf_data] at hw6
        have W6 := Lib.hid hw6
        have X6 := Lib.hid (hk6 _ _ _ X5.out (by decide) (by decide))
        have S6 := Lib.hid (Nat.le_trans S5.out hs6)
        have B6 := Lib.hid (HB.out.trans ((B5.out.mono (by have := HB.out.size; have := HBB.out; omega)).trans hb6))
        have L6 := Lib.hid (show (Sp.wtext kd.1 xk).1.length ≤ 1000000000000 by have := Sp.wtext_len kd.1 xk; have := LK'.out; omega)
        have D6 := Lib.hid (X6.out.rangeAt 1 (kd.2.map byteV) (fun j v hv => by
          rw [List.getElem?_toArray]
          unfold kidL
          rw [Nat.add_comm 1 j, List.getElem?_cons_succ]; exact hv))
        clear hw6 hb6 hk6 hs6 f0
        go_wp2_with ((with_reducible refine at_load (t := 36) rfl ?_); refine wpList_load_mid rfl _ _ rfl g4 1 rfl (kd.2.map byteV) _ D6.out Tryz.underlying36 rfl (by rw [List.length_map, hok.1]; kernel_rfl) ?_)
        refine (wdigest_calls B B _ kd.2 w6 hok.1 W6.out (by have := L6.out; omega) S6.out).mono ?_
        rintro e w7 ⟨rfl, t7⟩
        go_wp2
        go_roundw
        case rel => exact ⟨k + 1, by omega, by go_num, by rw [TK.out]; exact t7.wr, B6.out.trans t7.below⟩
        case measure => simp [intOf]; omega
      · obtain rfl : k = l.length := by omega
        rw [List.take_length, ← NN.out] at hw
        have DN := Lib.hid (wdone_calls B B (Sp.wnode n) wr hw NS.out)
        have HB' := Lib.hid hb'
        clear hw hb
        go_wp2_with fail
        refine DN.out.mono ?_
        rintro e w8 ⟨rfl, hb8⟩
        go_wp2
        go_ret2
        rw [NB.out]
        rw [HBB.out] at hb8
        exact ⟨rfl, E1.out.trans (hb8.from HB'.out)⟩
  · have NB := Lib.hid (show Sp.nbytes n = ([], Sp.ncheck n) from if_pos (by simpa using hc))
    go_wp2
    go_ret2
    rw [NB.out]
    exact ⟨rfl, E1.out⟩
end Go.Proofs.YtmlfnidckfeebaaGreatDoor
