/- Walks: leaves that are the same. Walks: dots and vectors as bytes. Walks: the reference's vectors and leaves as bytes. Walks: words, turned. Walks: digests as bytes. -/
import Derived.Laws.Rows
import Derived.Test.YtmlfnidckfeebaaGreatDoorRF005
namespace Go.Proofs.YtmlfnidckfeebaaGreatDoor
open Go.RowKit Go.Shelf
attribute [local go_sem] yUpon
set_option maxRecDepth 100000 in
set_option maxHeartbeats 4000000 in
theorem verequal_calls (l m : List Sp.Ver) (A B : Option Addr) (cap cap' : Nat) (w : World) (h : Vers w A l) (h' : Vers w B m) (hl : l.length ≤ 140737488351232) :
    Calls Tryz.prog 144 #[.slice A l.length cap, .slice B m.length cap', .func (.func 145) #[] #[]] w fun e w' => e = .returned (.bool (decide (l = m))) ∧ Ext w w' := by
  by_cases hlm : l.length = m.length
  · have b0 : ((l.length : Int) == (m.length : Int)) = true := by rw [hlm]; simp
    have b1 : ((l.length : Int) != (m.length : Int)) = false := by rw [hlm]; simp
    have HL := Lib.hid hlm
    clear hlm
    go_enter Tryz.func144, Tryz.ntmps144
    go_wp2
    go_loopw [17] (fun v13 wr => ∃ k : Nat, k ≤ l.length ∧ v13 = .int .i64 k ∧ decide (l = m) = decide (l.drop k = m.drop k) ∧ Ext w wr) (fun v13 _ => l.length - (intOf v13).toNat)
    case atStart => exact ⟨0, Nat.zero_le _, rfl, rfl, Ext.refl _⟩
    case round =>
      obtain ⟨k, hk, rfl, hv, hb⟩ := hrel
      by_cases hlt : k < l.length
      · have hlt' : k < m.length := by have := HL.out; omega
        obtain ⟨g, o, rfl, hc⟩ := (h.ext hb).at (by omega)
        obtain ⟨g', o', rfl, hc'⟩ := (h'.ext hb).at (by omega)
        obtain ⟨A', ca, ⟨c0, c1, c2, c3, c4⟩, hp⟩ := hc k hlt
        obtain ⟨B', cb, ⟨d0, d1, d2, d3, d4⟩, hp'⟩ := hc' k hlt'
        have e0 := Ext.alloc wr (.cells (verC A' ca l[k]) 71)
        have d0' := e0.cell d0
        have d1' := e0.cell d1
        have d2' := e0.cell d2
        have d3' := e0.cell d3
        have d4' := e0.cell d4
        rw [Sp.beq_drop l m k hlt hlt'] at hv
        have HV := Lib.hid hv
        have C := Lib.hid fun W (e : Ext wr W) => samever_calls l[k] m[k] A' B' ca cb W (hp.ext e) (hp'.ext e)
        clear hv hc hc' hp hp' e0 d0 d1 d2 d3 d4
        go_wp2_with (go_at_call 145; refine (C.out _ ((Ext.alloc _ _).trans (Ext.alloc _ _))).mono ?_; rintro e w1 ⟨rfl, hb1⟩; have B1 := Lib.hid (hb.trans (((Ext.alloc _ _).trans (Ext.alloc _ _)).trans hb1)); clear hb1)
        · go_ret
          refine ⟨?_, B1.out⟩
          have := HV.out
          simp_all
        · go_roundw
          case rel =>
            refine ⟨k + 1, by omega, by go_num, ?_, B1.out⟩
            have := HV.out
            simp_all
          case measure => simp [intOf]; omega
      · obtain rfl : k = l.length := by omega
        have HV := Lib.hid hv
        clear hv
        go_wp2
        go_ret
        exact ⟨by rw [HV.out, List.drop_length, HL.out, List.drop_length]; rfl, hb⟩
  · have b0 : ((l.length : Int) == (m.length : Int)) = false := by rw [beq_eq_false_iff_ne]; omega
    have b1 : ((l.length : Int) != (m.length : Int)) = true := by rw [bne_iff_ne]; omega
    have F := Lib.hid (show decide (l = m) = false by rw [decide_eq_false_iff_not]; rintro rfl; exact hlm rfl)
    clear hlm
    go_enter Tryz.func144, Tryz.ntmps144
    go_wp2
    go_ret
    exact ⟨by rw [F.out]; rfl, Ext.refl _⟩
set_option maxRecDepth 100000 in
set_option maxHeartbeats 2000000 in
theorem same_calls (l m : List Sp.Ver) (A B : Option Addr) (cap cap' : Nat) (w : World) (h : Vers w A l) (h' : Vers w B m) (hl : l.length ≤ 140737488351232) :
    Calls Tryz.prog 77 #[.slice A l.length cap, .slice B m.length cap'] w fun e w' => e = .returned (.bool (decide (l = m))) ∧ Ext w w' := by
  go_enter Tryz.func77, Tryz.ntmps77
  go_wp2_with (go_at_call 144; refine (verequal_calls l m A B cap cap' _ h h' hl).mono ?_; rintro e w1 ⟨rfl, hb1⟩)
  go_ret
  exact ⟨rfl, hb1⟩
end Go.Proofs.YtmlfnidckfeebaaGreatDoor
namespace Go.Proofs.YtmlfnidckfeebaaGreatDoor
open Go.RowKit
theorem flat_one (s : ByteArray) (hs : s.size ≤ 1) (n : Nat) (h : n ≤ 100000000000000) : n + (([s] : List ByteArray).flatMap (fun s => s.data.toList)).length ≤ 140737488355328 := by
  have : s.data.toList.length = s.size := by simp
  rw [List.flatMap_cons, List.flatMap_nil, List.append_nil]
  omega
theorem Ext.from' {w0 w w' : World} (e : Ext w0 w) (k : Below w0.heap.size w w') : Ext w0 w' := Below.trans e k
structure WTo (B g : Nat) (x : Sp.W) (w w' : World) : Prop where
  wr : IsWr B g x w'
  below : Below B w w'
  kept : Kept w w'
  size : w.heap.size ≤ w'.heap.size
theorem WTo.ext {g : Nat} {x : Sp.W} {w0 w w' : World} (h : WTo w0.heap.size g x w w') (e : Ext w0 w) : Ext w0 w' := h.below.from e
set_option maxRecDepth 100000 in
set_option maxHeartbeats 2000000 in
theorem wflag_calls (B g : Nat) (x : Sp.W) (b : Bool) (w : World) (h : IsWr B g x w) (hlen : x.1.length ≤ 100000000000000) (hBw : B ≤ w.heap.size) :
    Calls Tryz.prog 281 #[.pointer (some ⟨g, 0, none⟩), .bool b] w fun e w' => e = .returned (.tuple #[]) ∧ WTo B g (Sp.wflag b x) w w' := by
  have PU := Lib.hid fun (s : ByteArray) (hs : s.size ≤ 1) => wput_calls B g w.heap.size x true [s] (w.alloc (.cells #[.string s] 9)) (h.below (Ext.alloc _ _)) (box_at _ _ _) (flat_one s hs _ (by omega)) (by simp; omega) (by simp)
  have HB := Lib.hid hBw
  clear h hBw
  cases b with
  | true =>
    go_enter Tryz.func281, Tryz.ntmps281
    go_wp2_with (go_at_call 187; refine (PU.out _ (by decide)).mono ?_; rintro e w2 ⟨rfl, hw2, hb2, hk2, hs2⟩)
    go_end0
    have e1 := (Below.refl _ w).alloc HB.out (.cells #[.string ⟨#[1]⟩] 9)
    exact ⟨rfl, by simpa [Sp.wflag] using hw2, e1.trans hb2, (Kept.below (Ext.alloc _ _)).trans hk2, by rw [World.size_alloc] at hs2; omega⟩
  | false =>
    go_enter Tryz.func281, Tryz.ntmps281
    go_wp2_with (go_at_call 187; refine (PU.out _ (by decide)).mono ?_; rintro e w2 ⟨rfl, hw2, hb2, hk2, hs2⟩)
    go_end0
    have e1 := (Below.refl _ w).alloc HB.out (.cells #[.string ⟨#[0]⟩] 9)
    exact ⟨rfl, by simpa [Sp.wflag] using hw2, e1.trans hb2, (Kept.below (Ext.alloc _ _)).trans hk2, by rw [World.size_alloc] at hs2; omega⟩
set_option maxRecDepth 100000 in
set_option maxHeartbeats 2000000 in
theorem putdot_calls (B g : Nat) (x : Sp.W) (d : Sp.Dot) (w : World) (h : IsWr B g x w) (hlen : x.1.length ≤ 10000000000000) (hBw : B ≤ w.heap.size) :
    Calls Tryz.prog 190 #[.pointer (some ⟨g, 0, none⟩), dotV d] w fun e w' => e = .returned (.tuple #[]) ∧ WTo B g (Sp.wdot d x) w w' := by
  have hl := Sp.wnum_len d.1 x
  have N1 := Lib.hid (wnum_calls B g x d.1 (w.alloc (.cells #[.int .i64 d.1, .int .i64 d.2] 68)) (h.below (Ext.alloc _ _)) (by omega) (by simp; omega))
  have N2 := Lib.hid fun W (hw : IsWr B g (Sp.wnum d.1 x) W) (hb : B ≤ W.heap.size) => wnum_calls B g (Sp.wnum d.1 x) d.2 W hw (by omega) hb
  have HB := Lib.hid hBw
  have BX := Lib.hid (box_at w #[.int .i64 d.1, .int .i64 d.2] 68)
  clear h hBw hl
  go_enter Tryz.func190, Tryz.ntmps190
  go_wp2_with fail
  refine N1.out.mono ?_
  rintro e w1 ⟨rfl, hw1, hb1, hk1, hs1⟩
  have z1 := hk1 _ _ _ BX.out (by decide) (by decide)
  have c1 := (z1.cell 1).trans rfl
  rw [World.size_alloc] at hs1
  have e1 := ((Below.refl B w).alloc HB.out (.cells #[.int .i64 d.1, .int .i64 d.2] 68)).trans hb1
  have k1 := (Kept.below (Ext.alloc w (.cells #[.int .i64 d.1, .int .i64 d.2] 68))).trans hk1
  have C2 := Lib.hid (N2.out w1 hw1 (by have := HB.out; omega))
  have E1 := Lib.hid e1
  have K1 := Lib.hid k1
  clear hw1 hb1 hk1 z1 e1 k1
  go_wp2_with fail
  refine C2.out.mono ?_
  rintro e w2 ⟨rfl, hw2, hb2, hk2, hs2⟩
  go_wp2_with fail
  go_end0
  exact ⟨rfl, hw2, E1.out.trans hb2, K1.out.trans hk2, by omega⟩
end Go.Proofs.YtmlfnidckfeebaaGreatDoor
namespace Go.Proofs.YtmlfnidckfeebaaGreatDoor
open Go.RowKit Go.Shelf
namespace Sp
theorem wfail_zero (x : W) : wfail 0 x = x := by
  unfold wfail
  split
  · rename_i h; obtain ⟨a, b⟩ := x; simp at h; rw [h]
  · rfl
theorem wfail_bad (e : Int) (x : W) (h : e ≠ 0) : (wfail e x).2 ≠ 0 := by
  unfold wfail; split
  · exact h
  · assumption
theorem wput_bad (b : Bool) (s : Bs) (x : W) (h : x.2 ≠ 0) : wput b s x = x := by unfold wput; rw [if_pos h]
theorem wnum_bad (n : Int) (x : W) (h : x.2 ≠ 0) : wnum n x = x := wput_bad _ _ _ h
theorem wtext_bad (s : Bs) (x : W) (h : x.2 ≠ 0) : wtext s x = x := wput_bad _ _ _ h
theorem wflag_bad (b : Bool) (x : W) (h : x.2 ≠ 0) : wflag b x = x := wput_bad _ _ _ h
theorem wdot_bad (d : Dot) (x : W) (h : x.2 ≠ 0) : wdot d x = x := by unfold wdot; rw [wnum_bad d.1 x h, wnum_bad d.2 x h]
theorem wdots_bad : ∀ (l : List Dot) (x : W), x.2 ≠ 0 → wdots l x = x
  | [], _, _ => rfl
  | d :: r, x, h => by
    have := wdots_bad r x h
    unfold wdots at *
    rw [List.foldl_cons, wdot_bad d x h, this]
theorem wfail_done (e : Int) (x : W) (h : x.2 ≠ 0) : wfail e x = x := by unfold wfail; rw [if_neg h]
theorem wvec_bad (v : List Dot) (x : W) (h : x.2 ≠ 0) : wvec v x = x := by
  unfold wvec; split
  · exact wfail_done _ _ h
  · rw [wnum_bad _ _ h, wdots_bad _ _ h]
theorem wver_bad (v : Ver) (x : W) (h : x.2 ≠ 0) : wver v x = x := by
  unfold wver; rw [wdot_bad _ _ h, wvec_bad _ _ h, wflag_bad _ _ h, wtext_bad _ _ h]
theorem wvers_bad : ∀ (l : List Ver) (x : W), x.2 ≠ 0 → wvers l x = x
  | [], _, _ => rfl
  | d :: r, x, h => by
    have := wvers_bad r x h
    unfold wvers at *
    rw [List.foldl_cons, wver_bad d x h, this]
theorem wvec_ref (v : List Dot) (x : W) : wdots v (wnum v.length (wfail (vcheck v) x)) = wvec v x := by
  unfold wvec
  by_cases h : vcheck v = 0
  · rw [if_neg (by simpa using h), h, wfail_zero]
  · rw [if_pos h]
    have := wfail_bad (vcheck v) x h
    rw [wnum_bad _ _ this, wdots_bad _ _ this]
theorem wleaf_ref (l : List Ver) (x : W) : wvers l (wnum l.length (wfail (leaf l) x)) = wleaf l x := by
  unfold wleaf
  by_cases h : leaf l = 0
  · rw [if_neg (by simpa using h), h, wfail_zero]
  · rw [if_pos h]
    have := wfail_bad (leaf l) x h
    rw [wnum_bad _ _ this, wvers_bad _ _ this]
end Sp
structure RTo (g : Nat) (x : Sp.W) (w w' : World) : Prop where
  wr : isRW w' g x
  only : Only g w w'
theorem RTo.ext {g : Nat} {x : Sp.W} {w0 w w' : World} (h : RTo g x w w') (hg : w0.heap.size ≤ g) (e : Ext w0 w) : Ext w0 w' := e.from' (h.only.below hg e.size)
set_option maxRecDepth 100000 in
set_option maxHeartbeats 2000000 in
theorem rwflag_calls (g : Nat) (x : Sp.W) (b : Bool) (w : World) (h : isRW w g x) (hlen : x.1.length ≤ 100000000000000) :
    Calls Tryz.prog 254 #[.pointer (some ⟨g, 0, none⟩), .bool b] w fun e w' => e = .returned (.tuple #[]) ∧ RTo g (Sp.wflag b x) w w' := by
  cases b with
  | true =>
    have P := Lib.hid (rwput_calls g x true [1] w h (by simp; omega))
    clear h
    go_enter Tryz.func254, Tryz.ntmps254
    go_wp2_with fail
    refine P.out.mono ?_
    rintro e w1 ⟨rfl, h1, h2⟩
    go_wp2
    go_end0
    exact ⟨rfl, h1, h2⟩
  | false =>
    have P := Lib.hid (rwput_calls g x true [0] w h (by simp; omega))
    clear h
    go_enter Tryz.func254, Tryz.ntmps254
    go_wp2_with fail
    refine P.out.mono ?_
    rintro e w1 ⟨rfl, h1, h2⟩
    go_wp2
    go_end0
    exact ⟨rfl, h1, h2⟩
set_option maxRecDepth 100000 in
set_option maxHeartbeats 4000000 in
theorem rputvec_calls (w0 : World) (g : Nat) (x : Sp.W) (l : List Sp.Dot) (A : Option Addr) (cap : Nat) (w : World) (E : Ext w0 w) (hg : w0.heap.size ≤ g) (h : isRW w g x) (hD : Dots w0 A l) (hl : l.length ≤ 1000000) (hlen : x.1.length ≤ 10000000000000) :
    Calls Tryz.prog 128 #[.pointer (some ⟨g, 0, none⟩), .slice A l.length cap] w fun e w' => e = .returned (.tuple #[]) ∧ RTo g (Sp.wvec l x) w w' := by
  have F := Lib.hid (Sp.wvec_ref l x)
  have C1 := Lib.hid (rvcheck_calls l A cap w (hD.ext E) (by omega))
  have C2 := Lib.hid fun W (e : Ext w W) => rwfail_calls g x (Sp.vcheck l) W (h.below e)
  have lf := Sp.wfail_len (Sp.vcheck l) x
  have C3 := Lib.hid fun W (hw : isRW W g (Sp.wfail (Sp.vcheck l) x)) => rwnum_calls g _ l.length W hw (by omega)
  have ln := Sp.wnum_len (l.length : Int) (Sp.wfail (Sp.vcheck l) x)
  obtain ⟨y, hy⟩ : ∃ y, y = Sp.wnum (l.length : Int) (Sp.wfail (Sp.vcheck l) x) := ⟨_, rfl⟩
  rw [← hy] at C3 F ln
  clear h hy
  go_enter Tryz.func128, Tryz.ntmps128
  go_wp2_with fail
  refine C1.out.mono ?_
  rintro e w1 ⟨rfl, hb1⟩
  have B1 := Lib.hid hb1
  clear hb1
  go_wp2_with fail
  refine (C2.out w1 B1.out).mono ?_
  rintro e w2 ⟨rfl, hr2, ho2⟩
  have O2 := Lib.hid ((Only.of_below g B1.out).trans ho2)
  have C3' := Lib.hid (C3.out w2 hr2)
  clear ho2 hr2
  go_wp2_with fail
  refine C3'.out.mono ?_
  rintro e w3 ⟨rfl, hr3, ho3⟩
  have R3 := Lib.hid (show RTo g y w w3 from ⟨hr3, O2.out.trans ho3⟩)
  clear hr3 ho3
  go_wp2_with fail
  go_loopw [4] (fun v4 wr => ∃ i : Nat, i ≤ l.length ∧ v4 = .int .i64 i ∧ RTo g (Sp.wdots (l.take i) y) w wr) (fun v4 _ => l.length - (intOf v4).toNat)
  case atStart => exact ⟨0, Nat.zero_le _, rfl, R3.out⟩
  case round =>
    obtain ⟨i, hi, rfl, hw⟩ := hrel
    by_cases hlt : i < l.length
    · have eW := hw.ext hg E
      obtain ⟨ga, o, rfl, hc⟩ := hD.at (by omega)
      obtain ⟨c1', c2'⟩ := hc i hlt
      have c1 := eW.cell c1'
      have hyl := Sp.wdots_len (l.take i) y
      rw [List.length_take] at hyl
      have hl2 := Sp.wnum_len l[i].1 (Sp.wdots (l.take i) y)
      have D1 := Lib.hid (rwnum_calls g (Sp.wdots (l.take i) y) l[i].1 wr hw.wr (by omega))
      have D2 := Lib.hid fun W (h : isRW W g (Sp.wnum l[i].1 (Sp.wdots (l.take i) y))) => rwnum_calls g _ l[i].2 W h (by omega)
      have ST := Lib.hid (show Sp.wdots (l.take (i + 1)) y = Sp.wnum l[i].2 (Sp.wnum l[i].1 (Sp.wdots (l.take i) y)) by rw [List.take_succ_eq_append_getElem hlt, Sp.wdots_snoc]; rfl)
      have HW := Lib.hid hw.only
      have EW := Lib.hid eW
      have C2' := Lib.hid c2'
      clear hc hw eW hyl hl2 c1' c2'
      go_wp2_with fail
      refine D1.out.mono ?_
      rintro e w4 ⟨rfl, hr4, ho4⟩
      have E4 := EW.out.from' (ho4.below hg EW.out.size)
      have c2 := E4.cell C2'.out
      have D2' := Lib.hid (D2.out w4 hr4)
      have O4 := Lib.hid (HW.out.trans ho4)
      clear hr4 ho4 E4 c1
      go_wp2_with fail
      refine D2'.out.mono ?_
      rintro e w5 ⟨rfl, hr5, ho5⟩
      have R5 := Lib.hid hr5
      have O5 := Lib.hid (O4.out.trans ho5)
      clear hr5 ho5
      go_wp2_with fail
      go_roundw
      case rel => exact ⟨i + 1, by omega, by go_num, by rw [ST.out]; exact R5.out, O5.out⟩
      case measure => simp [intOf]; omega
    · obtain rfl : i = l.length := by omega
      rw [List.take_length] at hw
      have HW := Lib.hid hw
      clear hw
      go_wp2_with fail
      go_end0
      exact ⟨rfl, by rw [← F.out]; exact HW.out.wr, HW.out.only⟩
set_option maxRecDepth 100000 in
set_option maxHeartbeats 4000000 in
theorem rputleaf_calls (w0 : World) (g : Nat) (x : Sp.W) (l : List Sp.Ver) (A : Option Addr) (cap : Nat) (w : World) (E : Ext w0 w) (hg : w0.heap.size ≤ g) (h : isRW w g x) (hD : Vers w0 A l) (hl : l.length ≤ 1000) (hd : ∀ v ∈ l, v.data.length ≤ 100000 ∧ v.past.length ≤ 100000) (hlen : x.1.length ≤ 1000000000) :
    Calls Tryz.prog 198 #[.pointer (some ⟨g, 0, none⟩), .slice A l.length cap] w fun e w' => e = .returned (.tuple #[]) ∧ RTo g (Sp.wleaf l x) w w' := by
  have F := Lib.hid (Sp.wleaf_ref l x)
  have C1 := Lib.hid (rleaf_calls l A cap w (hD.ext E))
  have C2 := Lib.hid fun W (e : Ext w W) => rwfail_calls g x (Sp.leaf l) W (h.below e)
  have lf := Sp.wfail_len (Sp.leaf l) x
  have C3 := Lib.hid fun W (hw : isRW W g (Sp.wfail (Sp.leaf l) x)) => rwnum_calls g _ l.length W hw (by omega)
  have ln := Sp.wnum_len (l.length : Int) (Sp.wfail (Sp.leaf l) x)
  obtain ⟨y, hy⟩ : ∃ y, y = Sp.wnum (l.length : Int) (Sp.wfail (Sp.leaf l) x) := ⟨_, rfl⟩
  rw [← hy] at C3 F ln
  clear h hy
  go_enter Tryz.func198, Tryz.ntmps198
  go_wp2_with fail
  refine C1.out.mono ?_
  rintro e w1 ⟨rfl, hb1⟩
  have B1 := Lib.hid hb1
  clear hb1
  go_wp2_with fail
  refine (C2.out w1 B1.out).mono ?_
  rintro e w2 ⟨rfl, hr2, ho2⟩
  have O2 := Lib.hid ((Only.of_below g B1.out).trans ho2)
  have C3' := Lib.hid (C3.out w2 hr2)
  clear ho2 hr2
  go_wp2_with fail
  refine C3'.out.mono ?_
  rintro e w3 ⟨rfl, hr3, ho3⟩
  have R3 := Lib.hid (show RTo g y w w3 from ⟨hr3, O2.out.trans ho3⟩)
  clear hr3 ho3
  go_wp2_with fail
  go_loopw [4] (fun v4 wr => ∃ i : Nat, i ≤ l.length ∧ v4 = .int .i64 i ∧ RTo g (Sp.wvers (l.take i) y) w wr) (fun v4 _ => l.length - (intOf v4).toNat)
  case atStart => exact ⟨0, Nat.zero_le _, rfl, R3.out⟩
  case round =>
    obtain ⟨i, hi, rfl, hw⟩ := hrel
    by_cases hlt : i < l.length
    · have eW := hw.ext hg E
      obtain ⟨ga, o, rfl, hc⟩ := hD.at (by omega)
      obtain ⟨A', c', hvc, hp⟩ := hc i hlt
      have c0 := eW.cell hvc.c0
      have hyl := Sp.wvers_len (l.take i) 100000 (fun v hv => (hd v (List.mem_of_mem_take hv)).1) y
      rw [List.length_take] at hyl
      have hyb : (661 + 100000) * min i l.length ≤ (661 + 100000) * 1000 := Nat.mul_le_mul_left _ (by omega)
      have hdi := hd l[i] (List.getElem_mem hlt)
      obtain ⟨z, hz⟩ : ∃ z, z = Sp.wvers (l.take i) y := ⟨_, rfl⟩
      rw [← hz] at hyl hw
      have l1 := Sp.wnum_len l[i].dot.1 z
      have l2 := Sp.wnum_len l[i].dot.2 (Sp.wnum l[i].dot.1 z)
      have l3 := Sp.wvec_len l[i].past (Sp.wdot l[i].dot z)
      have l4 := Sp.wflag_len l[i].dead (Sp.wvec l[i].past (Sp.wdot l[i].dot z))
      have l0 := Sp.wdot_len l[i].dot z
      have D1 := Lib.hid (rwnum_calls g z l[i].dot.1 wr hw.wr (by omega))
      have D2 := Lib.hid fun W (h : isRW W g (Sp.wnum l[i].dot.1 z)) => rwnum_calls g _ l[i].dot.2 W h (by omega)
      have D3 := Lib.hid fun W (e : Ext w0 W) (h : isRW W g (Sp.wdot l[i].dot z)) => rputvec_calls w0 g _ l[i].past A' c' W e hg h hp.1 (by omega) (by omega)
      have D4 := Lib.hid fun W (h : isRW W g (Sp.wvec l[i].past (Sp.wdot l[i].dot z))) => rwflag_calls g _ l[i].dead W h (by omega)
      have D5 := Lib.hid fun W (h : isRW W g (Sp.wflag l[i].dead (Sp.wvec l[i].past (Sp.wdot l[i].dot z)))) => rwtext_calls g _ (strOf l[i].data) W h (by omega) (by rw [strOf_size]; omega)
      have ST := Lib.hid (show Sp.wvers (l.take (i + 1)) y = Sp.wver l[i] z by rw [List.take_succ_eq_append_getElem hlt, Sp.wvers_snoc, hz])
      rw [strOf_data] at D5
      have HW := Lib.hid hw.only
      have EW := Lib.hid eW
      have HV := Lib.hid hvc
      clear hc hw eW hyl hyb hdi hz l1 l2 l3 l4 l0 hvc hp
      go_wp2_with fail
      refine D1.out.mono ?_
      rintro e w4 ⟨rfl, hr4, ho4⟩
      have E4 := Lib.hid (EW.out.from' (ho4.below hg EW.out.size))
      have c1 := E4.out.cell HV.out.c1
      have D2' := Lib.hid (D2.out w4 hr4)
      have O4 := Lib.hid (HW.out.trans ho4)
      clear hr4 ho4 c0
      go_wp2_with fail
      refine D2'.out.mono ?_
      rintro e w5 ⟨rfl, hr5, ho5⟩
      have E5 := Lib.hid (E4.out.from' (ho5.below hg E4.out.size))
      have c2 := E5.out.cell HV.out.c2
      have D3' := Lib.hid (D3.out w5 E5.out hr5)
      have O5 := Lib.hid (O4.out.trans ho5)
      clear hr5 ho5 c1
      go_wp2_with fail
      refine D3'.out.mono ?_
      rintro e w6 ⟨rfl, hr6⟩
      have E6 := Lib.hid (E5.out.from' (hr6.only.below hg E5.out.size))
      have c3 := E6.out.cell HV.out.c3
      have D4' := Lib.hid (D4.out w6 hr6.wr)
      have O6 := Lib.hid (O5.out.trans hr6.only)
      clear hr6 c2
      go_wp2_with fail
      refine D4'.out.mono ?_
      rintro e w7 ⟨rfl, hr7⟩
      have E7 := Lib.hid (E6.out.from' (hr7.only.below hg E6.out.size))
      have c4 := E7.out.cell HV.out.c4
      have D5' := Lib.hid (D5.out w7 hr7.wr)
      have O7 := Lib.hid (O6.out.trans hr7.only)
      clear hr7 c3
      go_wp2_with fail
      refine D5'.out.mono ?_
      rintro e w8 ⟨rfl, hr8, ho8⟩
      have R8 := Lib.hid hr8
      have O8 := Lib.hid (O7.out.trans ho8)
      clear hr8 ho8
      go_wp2_with fail
      go_roundw
      case rel => exact ⟨i + 1, by omega, by go_num, by rw [ST.out]; exact R8.out, O8.out⟩
      case measure => simp [intOf]; omega
    · obtain rfl : i = l.length := by omega
      rw [List.take_length] at hw
      have HW := Lib.hid hw
      clear hw
      go_wp2_with fail
      go_end0
      exact ⟨rfl, by rw [← F.out]; exact HW.out.wr, HW.out.only⟩
end Go.Proofs.YtmlfnidckfeebaaGreatDoor
namespace Go.Proofs.YtmlfnidckfeebaaGreatDoor
open Go.RowKit
theorem turned_pure (x : UInt32) (n : Nat) : ((x <<< UInt32.ofNat (32 - n)) ||| (x >>> UInt32.ofNat n)) = Sp.rotr x n := by
  unfold Sp.rotr; rw [UInt32.or_comm]
set_option maxRecDepth 100000 in
set_option maxHeartbeats 2000000 in
theorem rotl_calls (x : UInt32) (n : Nat) (w : World) (hn : n ∈ [2, 6, 7, 11, 13, 17, 18, 19, 22, 25]) : Calls Tryz.prog 326 #[wordV x, .int .i64 (-(n : Int))] w fun e w' => e = .returned (wordV (Sp.rotr x n)) ∧ w = w' := by
  have hx := w_lt x
  simp only [List.mem_cons, List.not_mem_nil, or_false] at hn
  rcases hn with rfl | rfl | rfl | rfl | rfl | rfl | rfl | rfl | rfl | rfl
  · have m0 : bits .and .u64 (IntKind.u64.wrap (-2)) 31 = 30 := by decide
    have s1 : IntKind.u32.wrap (wd x * 1073741824) = wd (x <<< UInt32.ofNat (32 - 2)) := w_shl x 30 (by decide)
    have s2 : wd x / 4 = wd (x >>> UInt32.ofNat 2) := w_shr x 2 (by decide)
    have s3 : bits .or .u32 (wd (x <<< UInt32.ofNat (32 - 2))) (wd (x >>> UInt32.ofNat 2)) = wd (Sp.rotr x 2) := by rw [w_or, turned_pure]
    obtain ⟨a, ha⟩ : ∃ a, a = x <<< UInt32.ofNat (32 - 2) := ⟨_, rfl⟩
    obtain ⟨b, hb⟩ : ∃ b, b = x >>> UInt32.ofNat 2 := ⟨_, rfl⟩
    obtain ⟨c, hc⟩ : ∃ c, c = Sp.rotr x 2 := ⟨_, rfl⟩
    rw [← ha] at s1 s3
    rw [← hb] at s2 s3
    rw [← hc] at s3 ⊢
    clear ha hb hc
    go_enter Tryz.func326, Tryz.ntmps326
    go_wp2
    go_ret
    exact ⟨rfl, rfl⟩
  · have m0 : bits .and .u64 (IntKind.u64.wrap (-6)) 31 = 26 := by decide
    have s1 : IntKind.u32.wrap (wd x * 67108864) = wd (x <<< UInt32.ofNat (32 - 6)) := w_shl x 26 (by decide)
    have s2 : wd x / 64 = wd (x >>> UInt32.ofNat 6) := w_shr x 6 (by decide)
    have s3 : bits .or .u32 (wd (x <<< UInt32.ofNat (32 - 6))) (wd (x >>> UInt32.ofNat 6)) = wd (Sp.rotr x 6) := by rw [w_or, turned_pure]
    obtain ⟨a, ha⟩ : ∃ a, a = x <<< UInt32.ofNat (32 - 6) := ⟨_, rfl⟩
    obtain ⟨b, hb⟩ : ∃ b, b = x >>> UInt32.ofNat 6 := ⟨_, rfl⟩
    obtain ⟨c, hc⟩ : ∃ c, c = Sp.rotr x 6 := ⟨_, rfl⟩
    rw [← ha] at s1 s3
    rw [← hb] at s2 s3
    rw [← hc] at s3 ⊢
    clear ha hb hc
    go_enter Tryz.func326, Tryz.ntmps326
    go_wp2
    go_ret
    exact ⟨rfl, rfl⟩
  · have m0 : bits .and .u64 (IntKind.u64.wrap (-7)) 31 = 25 := by decide
    have s1 : IntKind.u32.wrap (wd x * 33554432) = wd (x <<< UInt32.ofNat (32 - 7)) := w_shl x 25 (by decide)
    have s2 : wd x / 128 = wd (x >>> UInt32.ofNat 7) := w_shr x 7 (by decide)
    have s3 : bits .or .u32 (wd (x <<< UInt32.ofNat (32 - 7))) (wd (x >>> UInt32.ofNat 7)) = wd (Sp.rotr x 7) := by rw [w_or, turned_pure]
    obtain ⟨a, ha⟩ : ∃ a, a = x <<< UInt32.ofNat (32 - 7) := ⟨_, rfl⟩
    obtain ⟨b, hb⟩ : ∃ b, b = x >>> UInt32.ofNat 7 := ⟨_, rfl⟩
    obtain ⟨c, hc⟩ : ∃ c, c = Sp.rotr x 7 := ⟨_, rfl⟩
    rw [← ha] at s1 s3
    rw [← hb] at s2 s3
    rw [← hc] at s3 ⊢
    clear ha hb hc
    go_enter Tryz.func326, Tryz.ntmps326
    go_wp2
    go_ret
    exact ⟨rfl, rfl⟩
  · have m0 : bits .and .u64 (IntKind.u64.wrap (-11)) 31 = 21 := by decide
    have s1 : IntKind.u32.wrap (wd x * 2097152) = wd (x <<< UInt32.ofNat (32 - 11)) := w_shl x 21 (by decide)
    have s2 : wd x / 2048 = wd (x >>> UInt32.ofNat 11) := w_shr x 11 (by decide)
    have s3 : bits .or .u32 (wd (x <<< UInt32.ofNat (32 - 11))) (wd (x >>> UInt32.ofNat 11)) = wd (Sp.rotr x 11) := by rw [w_or, turned_pure]
    obtain ⟨a, ha⟩ : ∃ a, a = x <<< UInt32.ofNat (32 - 11) := ⟨_, rfl⟩
    obtain ⟨b, hb⟩ : ∃ b, b = x >>> UInt32.ofNat 11 := ⟨_, rfl⟩
    obtain ⟨c, hc⟩ : ∃ c, c = Sp.rotr x 11 := ⟨_, rfl⟩
    rw [← ha] at s1 s3
    rw [← hb] at s2 s3
    rw [← hc] at s3 ⊢
    clear ha hb hc
    go_enter Tryz.func326, Tryz.ntmps326
    go_wp2
    go_ret
    exact ⟨rfl, rfl⟩
  · have m0 : bits .and .u64 (IntKind.u64.wrap (-13)) 31 = 19 := by decide
    have s1 : IntKind.u32.wrap (wd x * 524288) = wd (x <<< UInt32.ofNat (32 - 13)) := w_shl x 19 (by decide)
    have s2 : wd x / 8192 = wd (x >>> UInt32.ofNat 13) := w_shr x 13 (by decide)
    have s3 : bits .or .u32 (wd (x <<< UInt32.ofNat (32 - 13))) (wd (x >>> UInt32.ofNat 13)) = wd (Sp.rotr x 13) := by rw [w_or, turned_pure]
    obtain ⟨a, ha⟩ : ∃ a, a = x <<< UInt32.ofNat (32 - 13) := ⟨_, rfl⟩
    obtain ⟨b, hb⟩ : ∃ b, b = x >>> UInt32.ofNat 13 := ⟨_, rfl⟩
    obtain ⟨c, hc⟩ : ∃ c, c = Sp.rotr x 13 := ⟨_, rfl⟩
    rw [← ha] at s1 s3
    rw [← hb] at s2 s3
    rw [← hc] at s3 ⊢
    clear ha hb hc
    go_enter Tryz.func326, Tryz.ntmps326
    go_wp2
    go_ret
    exact ⟨rfl, rfl⟩
  · have m0 : bits .and .u64 (IntKind.u64.wrap (-17)) 31 = 15 := by decide
    have s1 : IntKind.u32.wrap (wd x * 32768) = wd (x <<< UInt32.ofNat (32 - 17)) := w_shl x 15 (by decide)
    have s2 : wd x / 131072 = wd (x >>> UInt32.ofNat 17) := w_shr x 17 (by decide)
    have s3 : bits .or .u32 (wd (x <<< UInt32.ofNat (32 - 17))) (wd (x >>> UInt32.ofNat 17)) = wd (Sp.rotr x 17) := by rw [w_or, turned_pure]
    obtain ⟨a, ha⟩ : ∃ a, a = x <<< UInt32.ofNat (32 - 17) := ⟨_, rfl⟩
    obtain ⟨b, hb⟩ : ∃ b, b = x >>> UInt32.ofNat 17 := ⟨_, rfl⟩
    obtain ⟨c, hc⟩ : ∃ c, c = Sp.rotr x 17 := ⟨_, rfl⟩
    rw [← ha] at s1 s3
    rw [← hb] at s2 s3
    rw [← hc] at s3 ⊢
    clear ha hb hc
    go_enter Tryz.func326, Tryz.ntmps326
    go_wp2
    go_ret
    exact ⟨rfl, rfl⟩
  · have m0 : bits .and .u64 (IntKind.u64.wrap (-18)) 31 = 14 := by decide
    have s1 : IntKind.u32.wrap (wd x * 16384) = wd (x <<< UInt32.ofNat (32 - 18)) := w_shl x 14 (by decide)
    have s2 : wd x / 262144 = wd (x >>> UInt32.ofNat 18) := w_shr x 18 (by decide)
    have s3 : bits .or .u32 (wd (x <<< UInt32.ofNat (32 - 18))) (wd (x >>> UInt32.ofNat 18)) = wd (Sp.rotr x 18) := by rw [w_or, turned_pure]
    obtain ⟨a, ha⟩ : ∃ a, a = x <<< UInt32.ofNat (32 - 18) := ⟨_, rfl⟩
    obtain ⟨b, hb⟩ : ∃ b, b = x >>> UInt32.ofNat 18 := ⟨_, rfl⟩
    obtain ⟨c, hc⟩ : ∃ c, c = Sp.rotr x 18 := ⟨_, rfl⟩
    rw [← ha] at s1 s3
    rw [← hb] at s2 s3
    rw [← hc] at s3 ⊢
    clear ha hb hc
    go_enter Tryz.func326, Tryz.ntmps326
    go_wp2
    go_ret
    exact ⟨rfl, rfl⟩
  · have m0 : bits .and .u64 (IntKind.u64.wrap (-19)) 31 = 13 := by decide
    have s1 : IntKind.u32.wrap (wd x * 8192) = wd (x <<< UInt32.ofNat (32 - 19)) := w_shl x 13 (by decide)
    have s2 : wd x / 524288 = wd (x >>> UInt32.ofNat 19) := w_shr x 19 (by decide)
    have s3 : bits .or .u32 (wd (x <<< UInt32.ofNat (32 - 19))) (wd (x >>> UInt32.ofNat 19)) = wd (Sp.rotr x 19) := by rw [w_or, turned_pure]
    obtain ⟨a, ha⟩ : ∃ a, a = x <<< UInt32.ofNat (32 - 19) := ⟨_, rfl⟩
    obtain ⟨b, hb⟩ : ∃ b, b = x >>> UInt32.ofNat 19 := ⟨_, rfl⟩
    obtain ⟨c, hc⟩ : ∃ c, c = Sp.rotr x 19 := ⟨_, rfl⟩
    rw [← ha] at s1 s3
    rw [← hb] at s2 s3
    rw [← hc] at s3 ⊢
    clear ha hb hc
    go_enter Tryz.func326, Tryz.ntmps326
    go_wp2
    go_ret
    exact ⟨rfl, rfl⟩
  · have m0 : bits .and .u64 (IntKind.u64.wrap (-22)) 31 = 10 := by decide
    have s1 : IntKind.u32.wrap (wd x * 1024) = wd (x <<< UInt32.ofNat (32 - 22)) := w_shl x 10 (by decide)
    have s2 : wd x / 4194304 = wd (x >>> UInt32.ofNat 22) := w_shr x 22 (by decide)
    have s3 : bits .or .u32 (wd (x <<< UInt32.ofNat (32 - 22))) (wd (x >>> UInt32.ofNat 22)) = wd (Sp.rotr x 22) := by rw [w_or, turned_pure]
    obtain ⟨a, ha⟩ : ∃ a, a = x <<< UInt32.ofNat (32 - 22) := ⟨_, rfl⟩
    obtain ⟨b, hb⟩ : ∃ b, b = x >>> UInt32.ofNat 22 := ⟨_, rfl⟩
    obtain ⟨c, hc⟩ : ∃ c, c = Sp.rotr x 22 := ⟨_, rfl⟩
    rw [← ha] at s1 s3
    rw [← hb] at s2 s3
    rw [← hc] at s3 ⊢
    clear ha hb hc
    go_enter Tryz.func326, Tryz.ntmps326
    go_wp2
    go_ret
    exact ⟨rfl, rfl⟩
  · have m0 : bits .and .u64 (IntKind.u64.wrap (-25)) 31 = 7 := by decide
    have s1 : IntKind.u32.wrap (wd x * 128) = wd (x <<< UInt32.ofNat (32 - 25)) := w_shl x 7 (by decide)
    have s2 : wd x / 33554432 = wd (x >>> UInt32.ofNat 25) := w_shr x 25 (by decide)
    have s3 : bits .or .u32 (wd (x <<< UInt32.ofNat (32 - 25))) (wd (x >>> UInt32.ofNat 25)) = wd (Sp.rotr x 25) := by rw [w_or, turned_pure]
    obtain ⟨a, ha⟩ : ∃ a, a = x <<< UInt32.ofNat (32 - 25) := ⟨_, rfl⟩
    obtain ⟨b, hb⟩ : ∃ b, b = x >>> UInt32.ofNat 25 := ⟨_, rfl⟩
    obtain ⟨c, hc⟩ : ∃ c, c = Sp.rotr x 25 := ⟨_, rfl⟩
    rw [← ha] at s1 s3
    rw [← hb] at s2 s3
    rw [← hc] at s3 ⊢
    clear ha hb hc
    go_enter Tryz.func326, Tryz.ntmps326
    go_wp2
    go_ret
    exact ⟨rfl, rfl⟩
set_option maxRecDepth 100000 in
set_option maxHeartbeats 2000000 in
theorem turned_calls (x : UInt32) (n : Nat) (w : World) (hn : n ∈ [2, 6, 7, 11, 13, 17, 18, 19, 22, 25]) : Calls Tryz.prog 323 #[wordV x, .int .i64 (n : Int)] w fun e w' => e = .returned (wordV (Sp.rotr x n)) ∧ w = w' := by
  have C := Lib.hid (rotl_calls x n w hn)
  have hn' : 0 ≤ (n : Int) ∧ (n : Int) ≤ 25 := by
    simp only [List.mem_cons, List.not_mem_nil, or_false] at hn
    omega
  have n1 : IntKind.i64.wrap (-(n : Int)) = -(n : Int) := IntWalk.i64_in _ (by omega)
  clear hn
  go_enter Tryz.func323, Tryz.ntmps323
  go_wp2_with (go_at_call 326; refine C.out.mono ?_; rintro e w1 ⟨rfl, rfl⟩)
  go_ret
  exact ⟨rfl, rfl⟩
set_option maxRecDepth 100000 in
set_option maxHeartbeats 2000000 in
theorem rturn_calls (x : UInt32) (n : Nat) (w : World) (hn : n ∈ [2, 6, 7, 11, 13, 17, 18, 19, 22, 25]) : Calls Tryz.prog 224 #[wordV x, .int .u64 (n : Int)] w fun e w' => e = .returned (wordV (Sp.rotr x n)) ∧ w = w' := by
  have hx := w_lt x
  simp only [List.mem_cons, List.not_mem_nil, or_false] at hn
  rcases hn with rfl | rfl | rfl | rfl | rfl | rfl | rfl | rfl | rfl | rfl
  · skip
    have s1 : IntKind.u32.wrap (wd x * 1073741824) = wd (x <<< UInt32.ofNat (32 - 2)) := w_shl x 30 (by decide)
    have s2 : wd x / 4 = wd (x >>> UInt32.ofNat 2) := w_shr x 2 (by decide)
    have s3 : bits .or .u32 (wd (x >>> UInt32.ofNat 2)) (wd (x <<< UInt32.ofNat (32 - 2))) = wd (Sp.rotr x 2) := by rw [w_or]; rfl
    obtain ⟨a, ha⟩ : ∃ a, a = x <<< UInt32.ofNat (32 - 2) := ⟨_, rfl⟩
    obtain ⟨b, hb⟩ : ∃ b, b = x >>> UInt32.ofNat 2 := ⟨_, rfl⟩
    obtain ⟨c, hc⟩ : ∃ c, c = Sp.rotr x 2 := ⟨_, rfl⟩
    rw [← ha] at s1 s3
    rw [← hb] at s2 s3
    rw [← hc] at s3 ⊢
    clear ha hb hc
    go_enter Tryz.func224, Tryz.ntmps224
    go_wp2
    go_ret
    exact ⟨rfl, rfl⟩
  · skip
    have s1 : IntKind.u32.wrap (wd x * 67108864) = wd (x <<< UInt32.ofNat (32 - 6)) := w_shl x 26 (by decide)
    have s2 : wd x / 64 = wd (x >>> UInt32.ofNat 6) := w_shr x 6 (by decide)
    have s3 : bits .or .u32 (wd (x >>> UInt32.ofNat 6)) (wd (x <<< UInt32.ofNat (32 - 6))) = wd (Sp.rotr x 6) := by rw [w_or]; rfl
    obtain ⟨a, ha⟩ : ∃ a, a = x <<< UInt32.ofNat (32 - 6) := ⟨_, rfl⟩
    obtain ⟨b, hb⟩ : ∃ b, b = x >>> UInt32.ofNat 6 := ⟨_, rfl⟩
    obtain ⟨c, hc⟩ : ∃ c, c = Sp.rotr x 6 := ⟨_, rfl⟩
    rw [← ha] at s1 s3
    rw [← hb] at s2 s3
    rw [← hc] at s3 ⊢
    clear ha hb hc
    go_enter Tryz.func224, Tryz.ntmps224
    go_wp2
    go_ret
    exact ⟨rfl, rfl⟩
  · skip
    have s1 : IntKind.u32.wrap (wd x * 33554432) = wd (x <<< UInt32.ofNat (32 - 7)) := w_shl x 25 (by decide)
    have s2 : wd x / 128 = wd (x >>> UInt32.ofNat 7) := w_shr x 7 (by decide)
    have s3 : bits .or .u32 (wd (x >>> UInt32.ofNat 7)) (wd (x <<< UInt32.ofNat (32 - 7))) = wd (Sp.rotr x 7) := by rw [w_or]; rfl
    obtain ⟨a, ha⟩ : ∃ a, a = x <<< UInt32.ofNat (32 - 7) := ⟨_, rfl⟩
    obtain ⟨b, hb⟩ : ∃ b, b = x >>> UInt32.ofNat 7 := ⟨_, rfl⟩
    obtain ⟨c, hc⟩ : ∃ c, c = Sp.rotr x 7 := ⟨_, rfl⟩
    rw [← ha] at s1 s3
    rw [← hb] at s2 s3
    rw [← hc] at s3 ⊢
    clear ha hb hc
    go_enter Tryz.func224, Tryz.ntmps224
    go_wp2
    go_ret
    exact ⟨rfl, rfl⟩
  · skip
    have s1 : IntKind.u32.wrap (wd x * 2097152) = wd (x <<< UInt32.ofNat (32 - 11)) := w_shl x 21 (by decide)
    have s2 : wd x / 2048 = wd (x >>> UInt32.ofNat 11) := w_shr x 11 (by decide)
    have s3 : bits .or .u32 (wd (x >>> UInt32.ofNat 11)) (wd (x <<< UInt32.ofNat (32 - 11))) = wd (Sp.rotr x 11) := by rw [w_or]; rfl
    obtain ⟨a, ha⟩ : ∃ a, a = x <<< UInt32.ofNat (32 - 11) := ⟨_, rfl⟩
    obtain ⟨b, hb⟩ : ∃ b, b = x >>> UInt32.ofNat 11 := ⟨_, rfl⟩
    obtain ⟨c, hc⟩ : ∃ c, c = Sp.rotr x 11 := ⟨_, rfl⟩
    rw [← ha] at s1 s3
    rw [← hb] at s2 s3
    rw [← hc] at s3 ⊢
    clear ha hb hc
    go_enter Tryz.func224, Tryz.ntmps224
    go_wp2
    go_ret
    exact ⟨rfl, rfl⟩
  · skip
    have s1 : IntKind.u32.wrap (wd x * 524288) = wd (x <<< UInt32.ofNat (32 - 13)) := w_shl x 19 (by decide)
    have s2 : wd x / 8192 = wd (x >>> UInt32.ofNat 13) := w_shr x 13 (by decide)
    have s3 : bits .or .u32 (wd (x >>> UInt32.ofNat 13)) (wd (x <<< UInt32.ofNat (32 - 13))) = wd (Sp.rotr x 13) := by rw [w_or]; rfl
    obtain ⟨a, ha⟩ : ∃ a, a = x <<< UInt32.ofNat (32 - 13) := ⟨_, rfl⟩
    obtain ⟨b, hb⟩ : ∃ b, b = x >>> UInt32.ofNat 13 := ⟨_, rfl⟩
    obtain ⟨c, hc⟩ : ∃ c, c = Sp.rotr x 13 := ⟨_, rfl⟩
    rw [← ha] at s1 s3
    rw [← hb] at s2 s3
    rw [← hc] at s3 ⊢
    clear ha hb hc
    go_enter Tryz.func224, Tryz.ntmps224
    go_wp2
    go_ret
    exact ⟨rfl, rfl⟩
  · skip
    have s1 : IntKind.u32.wrap (wd x * 32768) = wd (x <<< UInt32.ofNat (32 - 17)) := w_shl x 15 (by decide)
    have s2 : wd x / 131072 = wd (x >>> UInt32.ofNat 17) := w_shr x 17 (by decide)
    have s3 : bits .or .u32 (wd (x >>> UInt32.ofNat 17)) (wd (x <<< UInt32.ofNat (32 - 17))) = wd (Sp.rotr x 17) := by rw [w_or]; rfl
    obtain ⟨a, ha⟩ : ∃ a, a = x <<< UInt32.ofNat (32 - 17) := ⟨_, rfl⟩
    obtain ⟨b, hb⟩ : ∃ b, b = x >>> UInt32.ofNat 17 := ⟨_, rfl⟩
    obtain ⟨c, hc⟩ : ∃ c, c = Sp.rotr x 17 := ⟨_, rfl⟩
    rw [← ha] at s1 s3
    rw [← hb] at s2 s3
    rw [← hc] at s3 ⊢
    clear ha hb hc
    go_enter Tryz.func224, Tryz.ntmps224
    go_wp2
    go_ret
    exact ⟨rfl, rfl⟩
  · skip
    have s1 : IntKind.u32.wrap (wd x * 16384) = wd (x <<< UInt32.ofNat (32 - 18)) := w_shl x 14 (by decide)
    have s2 : wd x / 262144 = wd (x >>> UInt32.ofNat 18) := w_shr x 18 (by decide)
    have s3 : bits .or .u32 (wd (x >>> UInt32.ofNat 18)) (wd (x <<< UInt32.ofNat (32 - 18))) = wd (Sp.rotr x 18) := by rw [w_or]; rfl
    obtain ⟨a, ha⟩ : ∃ a, a = x <<< UInt32.ofNat (32 - 18) := ⟨_, rfl⟩
    obtain ⟨b, hb⟩ : ∃ b, b = x >>> UInt32.ofNat 18 := ⟨_, rfl⟩
    obtain ⟨c, hc⟩ : ∃ c, c = Sp.rotr x 18 := ⟨_, rfl⟩
    rw [← ha] at s1 s3
    rw [← hb] at s2 s3
    rw [← hc] at s3 ⊢
    clear ha hb hc
    go_enter Tryz.func224, Tryz.ntmps224
    go_wp2
    go_ret
    exact ⟨rfl, rfl⟩
  · skip
    have s1 : IntKind.u32.wrap (wd x * 8192) = wd (x <<< UInt32.ofNat (32 - 19)) := w_shl x 13 (by decide)
    have s2 : wd x / 524288 = wd (x >>> UInt32.ofNat 19) := w_shr x 19 (by decide)
    have s3 : bits .or .u32 (wd (x >>> UInt32.ofNat 19)) (wd (x <<< UInt32.ofNat (32 - 19))) = wd (Sp.rotr x 19) := by rw [w_or]; rfl
    obtain ⟨a, ha⟩ : ∃ a, a = x <<< UInt32.ofNat (32 - 19) := ⟨_, rfl⟩
    obtain ⟨b, hb⟩ : ∃ b, b = x >>> UInt32.ofNat 19 := ⟨_, rfl⟩
    obtain ⟨c, hc⟩ : ∃ c, c = Sp.rotr x 19 := ⟨_, rfl⟩
    rw [← ha] at s1 s3
    rw [← hb] at s2 s3
    rw [← hc] at s3 ⊢
    clear ha hb hc
    go_enter Tryz.func224, Tryz.ntmps224
    go_wp2
    go_ret
    exact ⟨rfl, rfl⟩
  · skip
    have s1 : IntKind.u32.wrap (wd x * 1024) = wd (x <<< UInt32.ofNat (32 - 22)) := w_shl x 10 (by decide)
    have s2 : wd x / 4194304 = wd (x >>> UInt32.ofNat 22) := w_shr x 22 (by decide)
    have s3 : bits .or .u32 (wd (x >>> UInt32.ofNat 22)) (wd (x <<< UInt32.ofNat (32 - 22))) = wd (Sp.rotr x 22) := by rw [w_or]; rfl
    obtain ⟨a, ha⟩ : ∃ a, a = x <<< UInt32.ofNat (32 - 22) := ⟨_, rfl⟩
    obtain ⟨b, hb⟩ : ∃ b, b = x >>> UInt32.ofNat 22 := ⟨_, rfl⟩
    obtain ⟨c, hc⟩ : ∃ c, c = Sp.rotr x 22 := ⟨_, rfl⟩
    rw [← ha] at s1 s3
    rw [← hb] at s2 s3
    rw [← hc] at s3 ⊢
    clear ha hb hc
    go_enter Tryz.func224, Tryz.ntmps224
    go_wp2
    go_ret
    exact ⟨rfl, rfl⟩
  · skip
    have s1 : IntKind.u32.wrap (wd x * 128) = wd (x <<< UInt32.ofNat (32 - 25)) := w_shl x 7 (by decide)
    have s2 : wd x / 33554432 = wd (x >>> UInt32.ofNat 25) := w_shr x 25 (by decide)
    have s3 : bits .or .u32 (wd (x >>> UInt32.ofNat 25)) (wd (x <<< UInt32.ofNat (32 - 25))) = wd (Sp.rotr x 25) := by rw [w_or]; rfl
    obtain ⟨a, ha⟩ : ∃ a, a = x <<< UInt32.ofNat (32 - 25) := ⟨_, rfl⟩
    obtain ⟨b, hb⟩ : ∃ b, b = x >>> UInt32.ofNat 25 := ⟨_, rfl⟩
    obtain ⟨c, hc⟩ : ∃ c, c = Sp.rotr x 25 := ⟨_, rfl⟩
    rw [← ha] at s1 s3
    rw [← hb] at s2 s3
    rw [← hc] at s3 ⊢
    clear ha hb hc
    go_enter Tryz.func224, Tryz.ntmps224
    go_wp2
    go_ret
    exact ⟨rfl, rfl⟩
end Go.Proofs.YtmlfnidckfeebaaGreatDoor
namespace Go.Proofs.YtmlfnidckfeebaaGreatDoor
open Go.RowKit Go.Shelf
theorem one_cell (w : World) (c : UInt8) (t : TypeId) : ∀ i, (h : i < [c].length) → (w.alloc (.cells #[.int .u8 c.toNat] t)).cell? ⟨w.heap.size, 0 + i, none⟩ = some (byteV [c][i]) := fun i hi => by
  obtain rfl : i = 0 := by simpa using hi
  rw [cell_of_row _ w.heap.size 0 _ _ (0, 0) (heap_alloc_new w _)]
  rfl
def digC (d : Sp.Bs) : Array Value := (d.map byteV).toArray
abbrev digV (d : Sp.Bs) : Value := .agg (digC d)
theorem digC_size (d : Sp.Bs) : (digC d).size = d.length := by simp [digC]
theorem digC_get (d : Sp.Bs) (i : Nat) (h : i < d.length) : (digC d)[i]? = some (byteV d[i]) := by simp [digC, h]
set_option maxRecDepth 100000 in
set_option maxHeartbeats 2000000 in
theorem wdigest_calls (B g : Nat) (x : Sp.W) (d : Sp.Bs) (w : World) (hd : d.length = 32) (h : IsWr B g x w) (hlen : x.1.length ≤ 100000000000000) (hBw : B ≤ w.heap.size) :
    Calls Tryz.prog 289 #[.pointer (some ⟨g, 0, none⟩), digV d] w fun e w' => e = .returned (.tuple #[]) ∧ WTo B g (Sp.wdigest d x) w w' := by
  obtain ⟨W0, hW0⟩ : ∃ W0, W0 = w.alloc (.cells (digC d) 36) := ⟨_, rfl⟩
  have SZ := Lib.hid (show W0.heap.size = w.heap.size + 1 by rw [hW0]; simp)
  have E0 := Lib.hid (show Ext w W0 by rw [hW0]; exact Ext.alloc _ _)
  have CC := Lib.hid (show ∀ i, (h : i < d.length) → W0.cell? ⟨w.heap.size, 0 + i, none⟩ = some (byteV d[i]) from fun i hi => by rw [hW0, Nat.zero_add, (box_at w (digC d) 36).cell i, digC_get d i hi])
  have PU := Lib.hid (wput_calls B g (w.heap.size + 1) x true [strOf d] (W0.alloc (.cells #[.string (strOf d)] 9)) (h.below (E0.out.trans (Ext.alloc _ _))) (by rw [← SZ.out]; exact box_at _ _ _) (by simp; omega) (by have := E0.out.size; simp; omega) (by simp))
  have HW := Lib.hid hW0.symm
  have HB := Lib.hid hBw
  have F := Lib.hid (show Sp.wdigest d x = Sp.wput true (([strOf d] : List ByteArray).flatMap (fun s => s.data.toList)) x by rw [List.flatMap_cons, List.flatMap_nil, List.append_nil, strOf_data]; rfl)
  obtain ⟨x2, hx2⟩ : ∃ x2, x2 = Sp.wput true (([strOf d] : List ByteArray).flatMap (fun s => s.data.toList)) x := ⟨_, rfl⟩
  rw [← hx2] at F PU
  have hds := digC_size d
  clear h hBw hW0 hx2
  go_enter Tryz.func289, Tryz.ntmps289
  go_wp2_with (refine conv_new rfl rfl Tryz.underlying172 Tryz.underlying5 Tryz.underlying9 w.heap.size 0 32 32 d rfl hd.symm ?cc ?_; (case cc => rw [HW.out]; exact CC.out))
  rw [HW.out]
  refine PU.out.mono ?_
  rintro e w1 ⟨rfl, hw1, hb1, hk1, hs1⟩
  go_wp2
  go_end0
  have e1 := E0.out.trans (Ext.alloc W0 (.cells #[.string (strOf d)] 9))
  exact ⟨rfl, by rw [F.out]; exact hw1, (Below.mono e1 HB.out).trans hb1, (Kept.below e1).trans hk1, Nat.le_trans e1.size hs1⟩
set_option maxRecDepth 100000 in
set_option maxHeartbeats 4000000 in
theorem rwdigest_calls (g : Nat) (x : Sp.W) (d : Sp.Bs) (w : World) (hd : d.length = 32) (h : isRW w g x) (hlen : x.1.length ≤ 100000000000000) :
    Calls Tryz.prog 227 #[.pointer (some ⟨g, 0, none⟩), digV d] w fun e w' => e = .returned (.tuple #[]) ∧ RTo g (Sp.wdigest d x) w w' := by
  obtain ⟨W0, hW0⟩ : ∃ W0, W0 = w.alloc (.cells (digC d) 36) := ⟨_, rfl⟩
  have HBX := Lib.hid (show isBlk W0 w.heap.size 36 (digC d) by rw [hW0]; exact box_at _ _ _)
  have E0 := Lib.hid (show Ext w W0 by rw [hW0]; exact Ext.alloc _ _)
  have HW := Lib.hid hW0.symm
  have P := Lib.hid fun W (e : Ext w W) => rwput_calls g x true d W (h.below e) (by omega)
  have hds := digC_size d
  clear hW0 h
  go_enter Tryz.func227, Tryz.ntmps227
  go_wp2_with fail
  rw [HW.out]
  go_loopw [4, 5] (fun v4 v5 wr => ∃ k : Nat, k ≤ 32 ∧ v5 = .int .i64 k ∧ v4 = .string (strOf (d.take k)) ∧ Ext W0 wr) (fun _ v5 _ => 32 - (intOf v5).toNat)
  case atStart => exact ⟨0, by decide, rfl, rfl, Ext.refl _⟩
  case round =>
    obtain ⟨k, hk, rfl, rfl, hb⟩ := hrel
    by_cases hlt : k < 32
    · have hkd : k < d.length := by omega
      have c0 := ((HBX.out.below hb).cell k).trans (digC_get d k hkd)
      unfold byteV at c0
      have a1 : strOf (d.take k) ++ strOf [d[k]] = strOf (d.take (k + 1)) := by rw [strOf_append, strOf_data, List.take_succ_eq_append_getElem hkd]
      have s1 : (strOf (d.take k)).size = k := by rw [strOf_size, List.length_take]; omega
      have s2 : (strOf [d[k]]).size = 1 := strOf_size _
      have HB := Lib.hid hb
      have H32 := Lib.hid hd
      clear hb hd
      go_wp2_with (refine conv_new rfl rfl Tryz.underlying172 Tryz.underlying5 Tryz.underlying9 wr.heap.size 0 1 1 [d[k]] rfl rfl ?cc ?_; (case cc => exact one_cell wr d[k] _))
      go_roundw
      case rel => exact ⟨k + 1, by omega, by go_num, rfl, HB.out.trans (Ext.alloc _ _)⟩
      case measure => simp [intOf]; omega
    · obtain rfl : k = 32 := by omega
      rw [← hd, List.take_length]
      have HB := Lib.hid hb
      have PP := Lib.hid (P.out wr (E0.out.trans hb))
      clear hb
      go_wp2_with fail
      refine PP.out.mono ?_
      rintro e w1 ⟨rfl, h1, h2⟩
      go_wp2
      go_end0
      exact ⟨rfl, h1, (Only.of_below g (E0.out.trans HB.out)).trans h2⟩
end Go.Proofs.YtmlfnidckfeebaaGreatDoor
