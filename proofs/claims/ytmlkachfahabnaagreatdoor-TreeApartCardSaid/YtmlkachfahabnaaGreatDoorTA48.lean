/- Walks: chapter 15's examples. Walks: pins: those of a list of which something is so. Walks: pins: those that are old go; room for one more. Walks: pins: the place of a tree that is of use. Walks: whether two unlike texts have one digest, by the document. -/
import Derived.Test.YtmlkachfahabnaaGreatDoorTA47
import Derived.Stop.BytesEq
import Derived.Test.YtmlkachfahabnaaGreatDoorTA44
import Derived.Deep.DeepCutAuto
import Derived.Test.YtmlkachfahabnaaGreatDoorTA21
namespace Go.Proofs.YtmlkachfahabnaaGreatDoor
open Go.RowKit Go.Shelf
attribute [local go_sem] yUpon strOf_toList
theorem ex_vers {w : World} {g : Nat} (h : isBlk w g 48 (verC none 0 Sp.exV)) : Vers w (some ⟨g, 0, none⟩) [Sp.exV] := by
  refine ⟨[(none, 0, Sp.exV)], rfl, fun _ => ⟨g, 0, rfl, fun j u hj => ?_⟩, fun x hx => ?_⟩
  · rw [Nat.zero_add, h.cell j]
    simpa [versC] using hj
  · rw [List.mem_singleton.1 hx]
    exact ⟨Cells.nil _ _, by decide⟩
theorem dig_guard : Tryz.prog.eqGuardType Tryz.prog.depth 33 = false := by kernel_rfl
theorem dig_eq (x : Sp.Bs) (h : x.length = 32) (w : World) : (Op.equalIn 10000 33 (.agg (digC x)) (.agg (digC x))).run Tryz.prog w = .ok true w := by
  have := run_equalIn_bytes (P := Tryz.prog) w 9998 33 5 32 Tryz.underlying33 Tryz.underlying5 (fun w => Tryz.sizeOf5 w) x x h h
  rw [beq_self_eq_true] at this
  exact this
set_option maxRecDepth 100000 in
set_option maxHeartbeats 4000000 in
theorem awake15_calls (w : World) (K : KeysAt w 2) (K2 : KeysAt w 0) (M : MaxAt w) :
    Calls Tryz.prog 5 #[] w fun e w' => e = .returned (.bool true) ∧ Ext w w' := by
  have KK := Lib.hid K
  have KK2 := Lib.hid K2
  have MM := Lib.hid M
  have tok : True := trivial
  clear K K2 M
  go_enter Tryz.func5, Tryz.ntmps5
  go_wp2_with (have _t := tok; (with_reducible refine at_bslice rfl ?_); refine bslice_new rfl 39 48 _ rfl appVer (by decide) (verC none 0 Sp.exV) rfl rfl ?_; intro gv wv hgv hxv hbv; have XV := Lib.hid hxv; have BV := Lib.hid hbv; clear tok _t hgv hxv hbv)
  have SC := Lib.hid (set_calls none (.pointer none) Sp.exP [Sp.exV] (some ⟨gv, 0, none⟩) 1 wv (.inl ⟨rfl, rfl⟩) (fun t h => by cases h) (by decide) (ex_vers XV.out) (KK.out.ext BV.out) (max_kept MM.out BV.out))
  rw [Sp.ex_code] at SC
  refine SC.out.mono ?_
  rintro e w2 ⟨v2, rfl, h0, _, hb2⟩
  obtain ⟨o, ho⟩ : ∃ o, o = Sp.withO none (Sp.split Sp.exP) [Sp.exV] := ⟨_, rfl⟩
  have T2 := Lib.hid (show TreeAt w2 v2 o by rw [ho]; exact h0 rfl)
  have G2 := Lib.hid (show Sp.GoodO o by rw [ho]; exact Sp.setCode_good Sp.ex_code Sp.good_none)
  have E2 := Lib.hid (BV.out.trans hb2)
  have XF := Lib.hid (show (Sp.findS (o.getD .nil) [97]).isSome = true by rw [ho]; exact Sp.ex_find)
  have XL := Lib.hid (show (Sp.entriesO o).length = 1 by rw [ho]; exact Sp.ex_len)
  have XG := Lib.hid (show (Sp.nodeS (o.getD .nil) Sp.exP).1.length = 1 by rw [ho]; exact Sp.ex_get)
  have tokA : True := trivial
  clear h0 hb2 SC ho
  go_wp2_with fail
  refine (tnode_calls o v2 [97] w2 T2.out G2.out (KK.out.ext E2.out) (max_kept MM.out E2.out)).mono ?_
  rintro e w3 ⟨A3, c3, B3, c4, rfl, _, _, hb3⟩
  rw [XF.out]
  have E3 := Lib.hid (E2.out.trans hb3)
  have T3 := Lib.hid (T2.out.ext hb3)
  clear hb3
  go_wp2_with (have _t := tokA; ((with_reducible refine at_alloc (t := 51) rfl ?_); refine box_new rfl (cs := #[.slice none 0 0, .slice none 0 0]) (t := 51) (by first | (go_simp; done) | (go_simp; rfl)) ?_; intro g4 w4 hg4 hx4 hb4; have H4 := Lib.hid hx4; have B4 := Lib.hid (show Ext w3 w4 from hb4); have GG4 := Lib.hid hg4; have k0 := (hx4.cell 0).trans rfl; have k1 := (hx4.cell 1).trans rfl; have k2 := hx4.frozen 0; have k3 := hx4.frozen 1; clear tokA _t hx4 hb4 hg4))
  obtain ⟨w5, hw5⟩ : ∃ w5, w5 = (w4.setCell ⟨g4, 0, none⟩ (.slice A3 (Sp.nodeS (o.getD .nil) [97]).1.length c3)).setCell ⟨g4, 1, none⟩ (.slice B3 (Sp.nodeS (o.getD .nil) [97]).2.length c4) := ⟨_, rfl⟩
  have B5 := Lib.hid (show Ext w3 w5 by rw [hw5]; exact (B4.out.setCell GG4.out _).setCell GG4.out _)
  rw [← hw5]
  clear hw5 k0 k1 k2 k3
  have E5 := Lib.hid (E3.out.trans B5.out)
  refine (len_calls o v2 w5 (T3.out.ext B5.out) (KK.out.ext E5.out)).mono ?_
  rintro e w6 ⟨rfl, hb6⟩
  rw [XL.out]
  have T6 := Lib.hid (T3.out.ext (B5.out.trans hb6))
  have E6 := Lib.hid (E5.out.trans hb6)
  clear hb6
  go_wp2_with fail
  refine (troot_calls none (.pointer none) w6 (.inl ⟨rfl, rfl⟩) (KK.out.ext E6.out)).mono ?_
  rintro e w7 ⟨rfl, hb7⟩
  have T7 := Lib.hid (T6.out.ext hb7)
  have E7 := Lib.hid (E6.out.trans hb7)
  rw [show Sp.nsum (Sp.nodeT ((none : Option Sp.T).getD .nil)) = Sp.sha [0, 0] from Sp.nil_sum]
  clear hb7
  go_wp2_with fail
  refine (rsha_calls [0, 0] w7 (by decide) (KK2.out.ext E7.out)).mono ?_
  rintro e w8 ⟨rfl, hb8⟩
  have T8 := Lib.hid (T7.out.ext hb8)
  have E8 := Lib.hid (E7.out.trans hb8)
  have hq := fun W => dig_eq (Sp.sha [0, 0]) (Sp.sha_len _) W
  have hg := dig_guard
  clear hb8
  rw [show digV (Sp.sha [0, 0]) = .agg (digC (Sp.sha [0, 0])) from rfl]
  obtain ⟨ds, hds⟩ : ∃ ds, ds = digC (Sp.sha [0, 0]) := ⟨_, rfl⟩
  rw [← hds] at hq ⊢
  clear hds
  go_wp2_with fail
  refine (len_calls none (.pointer none) w8 (.inl ⟨rfl, rfl⟩) (KK.out.ext E8.out)).mono ?_
  rintro e w9 ⟨rfl, hb9⟩
  rw [show (Sp.entriesO none).length = 0 from rfl]
  have T9 := Lib.hid (T8.out.ext hb9)
  have E9 := Lib.hid (E8.out.trans hb9)
  clear hb9
  go_wp2_with fail
  refine (tget_calls o v2 Sp.exP w9 T9.out G2.out (KK.out.ext E9.out) (max_kept MM.out E9.out)).mono ?_
  rintro e w10 ⟨A5, c5, rfl, _, hb10⟩
  rw [XG.out]
  have E10 := Lib.hid (E9.out.trans hb10)
  clear hb10
  go_wp2
  go_ret
  exact ⟨rfl, E10.out⟩
end Go.Proofs.YtmlkachfahabnaaGreatDoor
namespace Go.Proofs.YtmlkachfahabnaaGreatDoor
open Go.RowKit Go.Shelf
attribute [local go_sem] yUpon strOf_toList
/-- A pin: the tree's pointer, what it is, when it was last of use. -/
abbrev Pin := Option Addr × Option Sp.T × Int
def pinV (x : Pin) : Value := .agg #[.pointer x.1, .int .i64 x.2.2]
end Go.Proofs.YtmlkachfahabnaaGreatDoor
namespace Go.Proofs.YtmlkachfahabnaaGreatDoor
open Go.RowKit Go.Shelf
attribute [local go_sem] yUpon strOf_toList pinV
end Go.Proofs.YtmlkachfahabnaaGreatDoor
namespace Go.Proofs.YtmlkachfahabnaaGreatDoor
open Go.RowKit Go.Shelf
attribute [local go_sem] yUpon strOf_toList
theorem dig_eqv (x y : Sp.Bs) (h : x.length = 32) (h' : y.length = 32) (w : World) : (Op.equalIn 10000 33 (.agg (digC x)) (.agg (digC y))).run Tryz.prog w = .ok (x == y) w :=
  run_equalIn_bytes (P := Tryz.prog) w 9998 33 5 32 Tryz.underlying33 Tryz.underlying5 (fun w => Tryz.sizeOf5 w) x y h h'
end Go.Proofs.YtmlkachfahabnaaGreatDoor
namespace Go.Proofs.YtmlkachfahabnaaGreatDoor
open Go.RowKit Go.Shelf
attribute [local go_sem] yUpon strOf_toList
theorem appDig : AppStat Tryz.prog 70 33 32 32 := by
  refine ⟨Tryz.underlying70, by decide, by decide, ?_⟩
  obtain ⟨i0, hi, hz0, hz1, hz2⟩ := info_parts (show (Tryz.prog.info? 33).map (fun i => (i.zero, i.size, i.bytes)) = some (some (.agg (digC (List.replicate 32 0))), 32, 32) by kernel_rfl)
  exact ⟨i0, _, hi, hz0, hz1, hz2, by simp [digC, Value.cells]⟩
def digsC : List Sp.Bs → List Value
  | [] => []
  | x :: r => (Sp.sha x).map byteV ++ digsC r
theorem digsC_snoc (l : List Sp.Bs) (x : Sp.Bs) : digsC (l ++ [x]) = digsC l ++ (Sp.sha x).map byteV := by
  induction l with
  | nil => simp [digsC]
  | cons y r ih => rw [List.cons_append, digsC, ih, digsC, List.append_assoc]
theorem digsC_len : ∀ l, (digsC l).length = l.length * 32
  | [] => rfl
  | x :: r => by rw [digsC, List.length_append, List.length_map, Sp.sha_len, digsC_len r, List.length_cons]; omega
theorem digsC_get : ∀ (l : List Sp.Bs) (k j : Nat) (h : k < l.length) (v : Value), ((Sp.sha l[k]).map byteV)[j]? = some v → (digsC l)[k * 32 + j]? = some v
  | x :: r, 0, j, h, v, hv => by
    have hj : j < ((Sp.sha x).map byteV).length := (List.getElem?_eq_some_iff.1 hv).1
    rw [digsC, Nat.zero_mul, Nat.zero_add, List.getElem?_append_left hj]
    exact hv
  | x :: r, k + 1, j, h, v, hv => by
    rw [digsC, List.getElem?_append_right (by rw [List.length_map, Sp.sha_len]; omega), List.length_map, Sp.sha_len, show (k + 1) * 32 + j - 32 = k * 32 + j by omega]
    exact digsC_get r k j (by simpa using h) v hv
namespace Sp
mutual
theorem texts_short : ∀ t : T, Ok t → sizeT t ≤ 128 → ∀ x ∈ textsT t, x.length ≤ 4000000000
  | .mk lf k, h, hs, x, hx => by
    rw [textsT] at hx
    rcases List.mem_cons.1 hx with rfl | hx
    · refine nbytes_len _ (fun y hy => ?_) (node_writes _ h hs)
      rw [nodeT] at hy
      refine ⟨kidsT_32 k y hy, ?_⟩
      rw [kidsT_eq] at hy
      obtain ⟨z, hz, rfl⟩ := List.mem_map.1 hy
      exact Nat.le_trans (name_len (okL_names k h.2.2 z hz).1) (by decide)
    · rw [sizeT] at hs
      exact textsL_short k h.2.2 (by omega) x hx
theorem textsL_short : ∀ k : List (Bs × T), OkL k → sizeL k ≤ 128 → ∀ x ∈ textsL k, x.length ≤ 4000000000
  | [], _, _, x, hx => by rw [textsL] at hx; cases hx
  | (n, t) :: r, h, hs, x, hx => by
    rw [textsL] at hx
    rw [sizeL] at hs
    rcases List.mem_append.1 hx with hx | hx
    · exact texts_short t h.2.2.1 (by omega) x hx
    · exact textsL_short r h.2.2.2 (by omega) x hx
end
/-- Have two texts, unlike ones, one digest? -/
def clashAt (l : List Bs) (k i : Nat) : Prop := sha (l.getD k []) = sha (l.getD i []) ∧ l.getD k [] ≠ l.getD i []
theorem clash_some {l : List Bs} (h : clashS l = true) : ∃ i k, i < l.length ∧ k < i ∧ clashAt l k i := by
  unfold clashS at h
  obtain ⟨i, hi, h2⟩ := List.any_eq_true.1 h
  obtain ⟨k, hk, h3⟩ := List.any_eq_true.1 h2
  simp only [Bool.and_eq_true, decide_eq_true_eq] at h3
  exact ⟨i, k, List.mem_range.1 hi, List.mem_range.1 hk, h3⟩
end Sp
set_option maxRecDepth 100000 in
set_option maxHeartbeats 4000000 in
theorem rclash_calls (l : List Sp.Bs) (A : Option Addr) (cap : Nat) (w : World) (h : Nams w A l) (hl : l.length ≤ 2000) (hs : ∀ x ∈ l, x.length ≤ 4000000000) (hc : Sp.clashS l = true) (K : KeysAt w 0) :
    Calls Tryz.prog 13 #[.slice A l.length cap] w fun e w' => e = .returned (.bool true) ∧ Ext w w' := by
  have HH := Lib.hid h
  have HS := Lib.hid hs
  have KK := Lib.hid K
  have CS := Lib.hid (Sp.clash_some hc)
  clear h hs K hc
  go_enter Tryz.func13, Tryz.ntmps13
  go_wp2
  go_loopw [3, 4] (fun v3 v4 wr => ∃ i : Nat, i ≤ l.length ∧ v4 = .int .i64 i ∧ wr.ownsRow w.heap.size 33 32 v3 i (digsC (l.take i)) ∧ (∀ i' k', i' < i → k' < i' → ¬ Sp.clashAt l k' i') ∧ Ext w wr) (fun _ v4 _ => l.length - (intOf v4).toNat)
  case atStart => exact ⟨0, Nat.zero_le _, rfl, World.ownsRow_nil _ _ _ _, fun i' k' h => absurd h (Nat.not_lt_zero _), Ext.refl _⟩
  case round =>
    obtain ⟨i, hi, rfl, hO, hN, hb⟩ := hrel
    have HB := Lib.hid hb
    have HO := Lib.hid hO
    have HN := Lib.hid hN
    by_cases hlt : i < l.length
    · obtain ⟨sb, so, rfl, hst⟩ := HH.out.at (by omega)
      have C := Lib.hid (show ∀ k (h : k < l.length) W, Ext w W → W.cell? ⟨sb, so + k, none⟩ = some (.string (strOf l[k])) from fun k h W e => e.cell (hst k h))
      have s0 := C.out i hlt wr HB.out
      have XL := HS.out _ (List.getElem_mem hlt)
      have SC := Lib.hid (rsha_calls l[i] wr XL (KK.out.ext HB.out))
      have TT := Lib.hid (show l.take (i + 1) = l.take i ++ [l[i]] from List.take_succ_eq_append_getElem hlt)
      have XD := Lib.hid (show l.getD i [] = l[i] by rw [List.getD_eq_getElem?_getD, List.getElem?_eq_getElem hlt]; rfl)
      obtain ⟨x, hx⟩ : ∃ x, x = l[i] := ⟨_, rfl⟩
      rw [← hx] at s0 SC TT XD
      have ib : (i : Int) < (l.length : Int) := by omega
      clear hO hN hb hst XL hx
      go_wp2_with fail
      refine SC.out.mono ?_
      rintro e w5 ⟨rfl, hb5⟩
      have E5 := Lib.hid hb5
      have B5 := Lib.hid (HB.out.trans hb5)
      clear hb5 s0
      have tok : True := trivial
      have tokA : True := trivial
      go_upto_region 6 with (first
        | (have _t := tok; (with_reducible refine at_bslice rfl ?_); refine bslice_new rfl 70 33 _ rfl appDig (by decide) (digC (Sp.sha x)) rfl (by simp [digC, Sp.sha_len]) ?_; intro gv wv hgv hxv hbv; have XV := Lib.hid hxv; have BV := Lib.hid (B5.out.trans hbv); have EV := Lib.hid (E5.out.trans hbv); clear tok _t hgv hxv hbv)
        | (have _t := tokA; at_builtin; refine app_cells appDig rfl _ _ rfl w.heap.size _ i _ rfl (own_ext HO.out EV.out) (some ⟨gv, 0, none⟩) 1 1 ((Sp.sha x).map byteV) rfl (by rw [List.length_map, Sp.sha_len]) (fun _ => ⟨gv, 0, rfl, fun j u hj => by rw [Nat.zero_add, XV.out.cell j]; simpa [digC] using hj⟩) (by intro u hu; obtain ⟨b, _, rfl⟩ := List.mem_map.1 hu; rfl) (by omega) BV.out.size ?_; intro v7 w7 hown7 hgr7 hb7; have O7 := Lib.hid hown7; have B7 := Lib.hid (show Ext w w7 from Below.trans BV.out hb7); clear tokA _t hown7 hgr7 hb7))
      have O8 := Lib.hid (show w7.ownsRow w.heap.size 33 32 v7 (i + 1) (digsC (l.take (i + 1))) by rw [TT.out, digsC_snoc]; exact O7.out)
      obtain ⟨A8, c8, rfl, hc8⟩ := own_read O8.out
      obtain ⟨gd, od, rfl, hcd⟩ := hc8 (by intro e; have := digsC_len (l.take (i + 1)); rw [e, List.length_take] at this; simp at this; omega)
      have DG := Lib.hid (show ∀ k (h : k < i + 1) W, Ext w7 W → W.rangeAt gd (od + k * 32) ((Sp.sha (l.getD k [])).map byteV) from fun k h W e j u hu => by
        have hk : k < (l.take (i + 1)).length := by rw [List.length_take]; omega
        have h1 := digsC_get (l.take (i + 1)) k j hk u (by
          rw [List.getElem_take]
          rw [List.getD_eq_getElem?_getD, List.getElem?_eq_getElem (show k < l.length by omega)] at hu
          exact hu)
        rw [Nat.add_assoc]
        exact e.cell (hcd _ _ h1))
      clear hc8 hcd SC O7 HO
      go_wp2
      go_loopw [5] (fun v5 wr => ∃ k : Nat, k ≤ i ∧ v5 = .int .i64 k ∧ (∀ k', k' < k → ¬ Sp.clashAt l k' i) ∧ Ext w7 wr) (fun v5 _ => i - (intOf v5).toNat)
      case atStart => exact ⟨0, Nat.zero_le _, rfl, fun k' h => absurd h (Nat.not_lt_zero _), Ext.refl _⟩
      case round =>
        obtain ⟨k, hk, rfl, hNk, hbk⟩ := hrel
        have HBK := Lib.hid hbk
        have HNK := Lib.hid hNk
        by_cases hlk : k < i
        · have kl : k < l.length := by omega
          have YD := Lib.hid (show l.getD k [] = l[k] by rw [List.getD_eq_getElem?_getD, List.getElem?_eq_getElem kl]; rfl)
          have R1 := Lib.hid fun W (e : Ext wr W) => DG.out k (by omega) W (HBK.out.trans e)
          have R2 := Lib.hid fun W (e : Ext wr W) => DG.out i (by omega) W (HBK.out.trans e)
          rw [YD.out] at R1
          rw [XD.out] at R2
          have CL := Lib.hid (show Sp.clashAt l k i ↔ Sp.sha l[k] = Sp.sha x ∧ l[k] ≠ x by unfold Sp.clashAt; rw [YD.out, XD.out])
          have S1 := Lib.hid fun W (e : Ext wr W) => C.out k kl W (B7.out.trans (HBK.out.trans e))
          have S2 := Lib.hid fun W (e : Ext wr W) => C.out i hlt W (B7.out.trans (HBK.out.trans e))
          rw [show l[i] = x by rw [← XD.out, List.getD_eq_getElem?_getD, List.getElem?_eq_getElem hlt]; rfl] at S2
          obtain ⟨y, hy⟩ : ∃ y, y = l[k] := ⟨_, rfl⟩
          rw [← hy] at R1 S1 CL
          have hq := fun W => dig_eqv (Sp.sha y) (Sp.sha x) (Sp.sha_len _) (Sp.sha_len _) W
          have hg := dig_guard
          obtain ⟨q, hqq⟩ : ∃ q, q = (Sp.sha y == Sp.sha x) := ⟨_, rfl⟩
          rw [← hqq] at hq
          have Q1 := Lib.hid hqq
          obtain ⟨ds, hds⟩ : ∃ ds, ds = (Sp.sha y).map byteV := ⟨_, rfl⟩
          obtain ⟨dt, hdt⟩ : ∃ dt, dt = (Sp.sha x).map byteV := ⟨_, rfl⟩
          rw [← hds] at R1
          rw [← hdt] at R2
          have DL := Lib.hid (show ds.length = 32 by rw [hds, List.length_map, Sp.sha_len])
          have DM := Lib.hid (show dt.length = 32 by rw [hdt, List.length_map, Sp.sha_len])
          rw [show digC (Sp.sha y) = ds.toArray by rw [hds]; rfl, show digC (Sp.sha x) = dt.toArray by rw [hdt]; rfl] at hq
          have kb : (k : Int) < (i : Int) := by omega
          have kl2 : (k : Int) < (l.length : Int) := by omega
          have ki2 : (k : Int) < (i : Int) + 1 := by omega
          have ki3 : (i : Int) < (i : Int) + 1 := by omega
          have ki4 : i < i + 1 := Nat.lt_succ_self i
          have ki5 : (0 : Int) ≤ (i : Int) := by omega
          clear hNk hbk hy hqq hds hdt
          cases q with
          | true =>
            have Q2 := Lib.hid (show Sp.sha y = Sp.sha x from beq_iff_eq.1 Q1.out.symm)
            go_wp2_with fail
            refine wp_region_det (fun W => Ext wr W) (by kernel_rfl) (by kernel_rfl) (Ext.refl wr).drew ?_
            repeat (first
              | (refine det_step (fun K hK => ?_); (first | (refine det_load_mid rfl 33 (.tmp 27) rfl gd (od + k * 32) rfl ds _ (fun W hS => R1.out W hS) Tryz.underlying33 rfl (by rw [DL.out]; kernel_rfl) ?_) | (refine det_load_mid rfl 33 (.tmp 31) rfl gd (od + i * 32) rfl dt _ (fun W hS => R2.out W hS) Tryz.underlying33 rfl (by rw [DM.out]; kernel_rfl) ?_)); go_simp; refine hK _ ?_; clear hK K)
              | (refine det_step (fun K hK => ?_)
                 apply Exists.intro
                 refine ⟨Or.inl ⟨rfl, fun W hS => ?_⟩, ?_⟩
                 · have hz : Ext wr W := hS; have s1 := S1.out W hz; have s2 := S2.out W hz
                   go_simp
                   first
                   | exact rfl
                   | exact ⟨rfl, hS⟩
                   | (fail)
                 go_simp
                 refine hK _ ?_
                 clear hK K)
              | (refine det_step (fun K hK => ?_); refine det_no' rfl ?_; go_simp; refine hK _ ?_; clear hK K))
            refine det_nil ?_
            intro W9 hS
            replace hS : Ext wr W9 := hS
            have B9 := Lib.hid (HBK.out.trans hS)
            clear hS
            go_wp2_with fail
            · go_ret
              exact ⟨rfl, B7.out.trans B9.out⟩
            · have heq : y = x := by
                have h : (!(y == x)) = false := by assumption
                have : (y == x) = true := by
                  revert h
                  cases (y == x) <;> simp
                exact beq_iff_eq.1 this
              refine ⟨⟨k + 1, by omega, by go_num, fun k' hk' => ?_, B9.out⟩, by simp [intOf]; omega⟩
              rcases Nat.lt_or_ge k' k with h | h
              · exact HNK.out k' h
              · obtain rfl : k' = k := by omega
                rw [CL.out]
                exact fun h => h.2 heq
          | false =>
            have Q2 := Lib.hid (show Sp.sha y ≠ Sp.sha x from fun e => by have := Q1.out; rw [e, beq_self_eq_true] at this; cases this)
            go_wp2_with fail
            refine wp_region_det (fun W => Ext wr W) (by kernel_rfl) (by kernel_rfl) (Ext.refl wr).drew ?_
            repeat (first
              | (refine det_step (fun K hK => ?_); (first | (refine det_load_mid rfl 33 (.tmp 27) rfl gd (od + k * 32) rfl ds _ (fun W hS => R1.out W hS) Tryz.underlying33 rfl (by rw [DL.out]; kernel_rfl) ?_) | (refine det_load_mid rfl 33 (.tmp 31) rfl gd (od + i * 32) rfl dt _ (fun W hS => R2.out W hS) Tryz.underlying33 rfl (by rw [DM.out]; kernel_rfl) ?_)); go_simp; refine hK _ ?_; clear hK K)
              | (refine det_step (fun K hK => ?_)
                 apply Exists.intro
                 refine ⟨Or.inl ⟨rfl, fun W hS => ?_⟩, ?_⟩
                 · have hz : Ext wr W := hS; have s1 := S1.out W hz; have s2 := S2.out W hz
                   go_simp
                   first
                   | exact rfl
                   | exact ⟨rfl, hS⟩
                   | (fail)
                 go_simp
                 refine hK _ ?_
                 clear hK K)
              | (refine det_step (fun K hK => ?_); refine det_no' rfl ?_; go_simp; refine hK _ ?_; clear hK K))
            refine det_nil ?_
            intro W9 hS
            replace hS : Ext wr W9 := hS
            have B9 := Lib.hid (HBK.out.trans hS)
            clear hS
            go_wp2
            go_roundw
            case rel =>
              refine ⟨k + 1, by omega, by go_num, fun k' hk' => ?_, B9.out⟩
              rcases Nat.lt_or_ge k' k with h | h
              · exact HNK.out k' h
              · obtain rfl : k' = k := by omega
                rw [CL.out]
                exact fun h => Q2.out h.1
            case measure => simp [intOf]; omega
        · obtain rfl : k = i := by omega
          have O9 := Lib.hid (own_ext O8.out hbk)
          have B9 := Lib.hid (B7.out.trans hbk)
          clear hNk hbk
          go_wp2
          go_roundw
          case rel =>
            refine ⟨k + 1, by omega, by go_num, O9.out, fun i' k' h1 h2 => ?_, B9.out⟩
            rcases Nat.lt_or_ge i' k with h | h
            · exact HN.out i' k' h h2
            · obtain rfl : i' = k := by omega
              exact HNK.out k' h2
          case measure => simp [intOf]; omega
    · exfalso
      obtain ⟨i', k', h1, h2, h3⟩ := CS.out
      exact hN i' k' (by omega) h2 h3
end Go.Proofs.YtmlkachfahabnaaGreatDoor
