/- Walks: pins: Find, Len; what none answers. Walks: one of a few trees; the examples of chapter 28; what none answers. Walks: the example of chapter 28. -/
import Derived.Test.YtedjiaenodechaaGreatDoorPH47
namespace Go.Proofs.YtedjiaenodechaaGreatDoor
open Go.RowKit Go.Shelf
attribute [local go_sem] yUpon strOf_toList
theorem putnil_calls (a : Option Addr) (now : Int) (w : World) : Calls Tryz.prog 17 #[.pointer none, .pointer a, .int .i64 now] w fun e w' => e = .returned (.tuple #[]) ∧ w = w' := by
  go_enter Tryz.func17, Tryz.ntmps17
  go_wp2_with fail
  refine bodyPost_ret (results_none rfl _ _ _) rfl ?_
  exact ⟨rfl, rfl⟩
theorem lennil_calls (now : Int) (w : World) : Calls Tryz.prog 20 #[.pointer none, .int .i64 now] w fun e w' => e = .returned (.int .i64 0) ∧ w = w' := by
  go_enter Tryz.func20, Tryz.ntmps20
  go_wp2_with fail
  go_ret
  exact ⟨rfl, rfl⟩
theorem findnil_calls (d : Sp.Bs) (now : Int) (w : World) : Calls Tryz.prog 19 #[.pointer none, digV d, .int .i64 now] w fun e w' => e = .returned (.tuple #[.pointer none, .bool false]) ∧ Ext w w' := by
  have tok1 : True := trivial
  go_enter Tryz.func19, Tryz.ntmps19
  go_wp2_with (have _t := tok1; ((with_reducible refine at_box (t := 41) rfl ?_); refine box_new rfl (cs := digC d) (t := 41) (by first | (go_simp; done) | (go_simp; rfl)) ?_; intro g2 w2 hg2 hx2 hb2; have B2 := Lib.hid (show Ext w w2 from hb2); clear tok1 _t hx2 hb2 hg2))
  go_ret2
  exact ⟨rfl, B2.out⟩
set_option maxRecDepth 100000 in
set_option maxHeartbeats 4000000 in
theorem plen_calls (g : Nat) (ps : List Pin) (now : Int) (w : World) (hP : PinsAt g w ps) (hl : ps.length ≤ 900) :
    Calls Tryz.prog 20 #[.pointer (some ⟨g, 0, none⟩), .int .i64 now] w fun e w' => e = .returned (.int .i64 (oldS (clampS now) ps).length) ∧ PinsAt g w' (oldS (clampS now) ps) ∧ Only g w w' := by
  have PT := Lib.hid fun (w' : World) (e : Only g w w') (v : Value) (o : Option Sp.T) (h : TreeAt w v o) => hP.tree e h
  obtain ⟨v, hx, hO, hX⟩ := hP
  have HX := Lib.hid hX
  obtain ⟨n, hn⟩ : ∃ n, n = clampS now := ⟨_, rfl⟩
  have TN := Lib.hid (show Tm n by rw [hn]; exact clamp_tm now)
  have CC := Lib.hid (show ∀ w, Calls Tryz.prog 48 #[.int .i64 now] w fun e w' => e = .returned (.int .i64 n) ∧ w = w' from fun w => by rw [hn]; exact clamp_calls now w)
  rw [← hn]
  obtain ⟨A, cap, rfl, _⟩ := own_read hO
  have OC := Lib.hid (old_calls g n ps _ w hx hO (by omega) TN.out (fun x h => (hX x h).2))
  clear hx hO hX hn
  go_enter Tryz.func20, Tryz.ntmps20
  go_wp2_with fail
  refine (CC.out w).mono ?_
  rintro e w1 ⟨rfl, rfl⟩
  go_wp2_with fail
  refine OC.out.mono ?_
  rintro e w1 ⟨rfl, v1, hx1, hO1, hon1⟩
  obtain ⟨A1, c1, rfl, _⟩ := own_read hO1
  have z0 := (hx1.cell 0).trans rfl
  have PA := Lib.hid (show PinsAt g w1 (oldS n ps) from ⟨_, hx1, own_lowT hO1 (Nat.zero_le _), fun x h => ⟨PT.out w1 hon1 _ _ (HX.out x (oldS_tm h)).1, (HX.out x (oldS_tm h)).2⟩⟩)
  have N1 := Lib.hid hon1
  clear hx1 hO1 hon1
  go_wp2
  go_ret
  exact ⟨rfl, PA.out, N1.out⟩
/-- What is found: which, and what is left. -/
def findP (d : Sp.Bs) (n : Int) (ps : List Pin) : List Pin := useP d n (oldS n ps)
def foundV (d : Sp.Bs) (n : Int) (ps : List Pin) : Value :=
  match useK d (oldS n ps) with
  | some k => .tuple #[.pointer (((oldS n ps)[k]?).bind (·.1)), .bool true]
  | none => .tuple #[.pointer none, .bool false]
set_option maxRecDepth 100000 in
set_option maxHeartbeats 4000000 in
theorem pfind_calls (g : Nat) (ps : List Pin) (d : Sp.Bs) (hd : d.length = 32) (now : Int) (w : World) (hP : PinsAt g w ps) (hl : ps.length ≤ 900) (K : KeysAt w 2) :
    Calls Tryz.prog 19 #[.pointer (some ⟨g, 0, none⟩), digV d, .int .i64 now] w fun e w' => e = .returned (foundV d (clampS now) ps) ∧ PinsAt g w' (findP d (clampS now) ps) ∧ Only g w w' := by
  have PT := Lib.hid fun (w' : World) (e : Only g w w') (v : Value) (o : Option Sp.T) (h : TreeAt w v o) => hP.tree e h
  obtain ⟨v, hx, hO, hX⟩ := hP
  have HX := Lib.hid hX
  have GL := Lib.hid hx.lt
  have KK := Lib.hid fun (w' : World) (e : Only g w w') => keys_only K e hx (row_sl hO)
  obtain ⟨n, hn⟩ : ∃ n, n = clampS now := ⟨_, rfl⟩
  have TN := Lib.hid (show Tm n by rw [hn]; exact clamp_tm now)
  have CC := Lib.hid (show ∀ w, Calls Tryz.prog 48 #[.int .i64 now] w fun e w' => e = .returned (.int .i64 n) ∧ w = w' from fun w => by rw [hn]; exact clamp_calls now w)
  rw [← hn]
  obtain ⟨A, cap, rfl, _⟩ := own_read hO
  have OC := Lib.hid fun (W : World) (e : Ext w W) => old_calls g n ps _ W (hx.below e) (own_ext hO e) (by omega) TN.out (fun x h => (hX x h).2)
  have DL := Lib.hid (show (d.map byteV).length = 32 by rw [List.length_map, hd])
  have DM := Lib.hid (show (d.map byteV).toArray = digC d from rfl)
  have DD := Lib.hid hd
  have tok1 : True := trivial
  have tok2 : True := trivial
  clear hx hO hX K hn hd
  go_enter Tryz.func19, Tryz.ntmps19
  go_wp2_with (have _t := tok1; ((with_reducible refine at_box (t := 41) rfl ?_); refine box_new rfl (cs := digC d) (t := 41) (by first | (go_simp; done) | (go_simp; rfl)) ?_; intro g2 w2 hg2 hx2 hb2; have X2 := Lib.hid hx2; have B2 := Lib.hid (show Ext w w2 from hb2); have GG := Lib.hid hg2; clear tok1 _t hx2 hb2 hg2))
  refine (CC.out w2).mono ?_
  rintro e w1 ⟨rfl, rfl⟩
  go_wp2_with fail
  refine (OC.out w2 B2.out).mono ?_
  rintro e w3 ⟨rfl, v3, hx3, hO3, hon3⟩
  obtain ⟨q, hq⟩ : ∃ q, q = oldS n ps := ⟨_, rfl⟩
  have QM := Lib.hid (show ∀ x ∈ q, x ∈ ps from fun x h => oldS_tm (by rw [← hq]; exact h))
  have QL := Lib.hid (show q.length ≤ 900 by rw [hq]; exact Nat.le_trans (oldS_len n ps) hl)
  have FP := Lib.hid (show findP d n ps = useP d n q by rw [hq]; rfl)
  have FV := Lib.hid (show foundV d n ps = (match useK d q with | some k => .tuple #[.pointer ((q[k]?).bind (·.1)), .bool true] | none => .tuple #[.pointer none, .bool false]) by rw [hq]; rfl)
  rw [← hq] at hO3
  have X3 := Lib.hid hx3
  have O3 := Lib.hid hO3
  have N3 := Lib.hid ((Only.of_below g B2.out).trans hon3)
  have NG := Lib.hid (show g2 ≠ g by have := GL.out; have := GG.out; omega)
  have D3 := Lib.hid (hon3.blk X2.out NG.out)
  have RG := Lib.hid (show w3.rangeAt g2 0 (d.map byteV) from fun j u hj => by
    rw [Nat.zero_add, D3.out.cell j]
    simpa [digC] using hj)
  have UC := Lib.hid (use_calls g w2.heap.size d DD.out n q v3 w3 hx3 hO3 hon3.size (by have := QL.out; omega) (fun x h => PT.out w3 N3.out _ _ (HX.out x (QM.out x h)).1) (KK.out w3 N3.out))
  clear hx3 hO3 hon3 hq
  go_wp2_with (have _t := tok2; ((with_reducible refine at_load (t := 41) rfl ?_); refine wpList_load_mid rfl _ _ rfl g2 0 rfl (d.map byteV) _ RG.out Tryz.underlying41 rfl (by rw [DL.out]; kernel_rfl) ?_; rw [DM.out]; clear tok2 _t))
  refine UC.out.mono ?_
  rintro e w4 ⟨rfl, hO4, hb4⟩
  have X4 := Lib.hid (show isBlk w4 g 62 #[v3] from (hb4.block g (Nat.lt_of_lt_of_le GL.out B2.out.size)).trans X3.out)
  have O4 := Lib.hid hO4
  have N4 := Lib.hid (show Only g w w4 from only_chain N3.out (hb4.mono B2.out.size))
  have PA := Lib.hid (show PinsAt g w4 (findP d n ps) from ⟨v3, X4.out, by rw [FP.out, useP_len]; exact own_lowT O4.out (Nat.zero_le _), fun x h => by
    rw [FP.out] at h
    obtain ⟨y, hy, h2⟩ := useP_mem h
    have := HX.out y (QM.out y hy)
    rcases h2 with rfl | rfl
    · exact ⟨PT.out w4 N4.out _ _ this.1, this.2⟩
    · exact ⟨PT.out w4 N4.out _ _ this.1, TN.out⟩⟩)
  clear hO4 hb4
  cases hu : useK d q with
  | none =>
    have UI := Lib.hid (show useI d q = -1 by rw [useI, hu])
    have FV2 := Lib.hid (show foundV d n ps = .tuple #[.pointer none, .bool false] by rw [FV.out, hu])
    rw [UI.out]
    clear hu
    go_wp2_with fail
    go_ret2
    exact ⟨by rw [FV2.out]; rfl, PA.out, N4.out⟩
  | some k =>
    have hk : k < q.length := by
      unfold useK at hu
      rw [List.findIdx?_eq_some_iff_getElem] at hu
      exact hu.1
    have UI := Lib.hid (show useI d q = (k : Int) by rw [useI, hu])
    have FV2 := Lib.hid (show foundV d n ps = .tuple #[.pointer (q[k]).1, .bool true] by rw [FV.out, hu]; simp [hk])
    have UP := Lib.hid (show useP d n q = q.modify k (touch n) by rw [useP, hu])
    have hk2 : k < (useP d n q).length := by rw [useP_len]; exact hk
    have PG := Lib.hid (show ((useP d n q)[k]).1 = (q[k]).1 by
      simp only [UP.out, List.getElem_modify, if_true]
      rfl)
    rw [UI.out]
    obtain ⟨a4, c4, e4, _⟩ := owned_form O4.out (by omega)
    subst e4
    obtain ⟨z1, _, _, _⟩ := own_isBlk O4.out (k * 2) _ (pinsC_get (useP d n q) k hk2).1
    rw [PG.out] at z1
    have z0 := (X4.out.cell 0).trans rfl
    have e1 : ¬ (k : Int) < 0 := by omega
    have b1 : (k : Int) < (q.length : Int) := by omega
    have ql := QL.out
    obtain ⟨pk, hpk⟩ : ∃ pk, pk = (q[k]).1 := ⟨_, rfl⟩
    rw [← hpk] at z1 FV2
    clear hu hpk
    go_wp2_with fail
    go_ret2
    exact ⟨by rw [FV2.out]; rfl, PA.out, N4.out⟩
end Go.Proofs.YtedjiaenodechaaGreatDoor
namespace Go.Proofs.YtedjiaenodechaaGreatDoor
open Go.RowKit Go.Shelf
attribute [local go_sem] yUpon strOf_toList
namespace Sp
/-- The version of the k-th tree. -/
def tV (k : Nat) : Ver := ⟨(0, 1 + k), [], false, []⟩
def treeK (k : Nat) : Option T := withO none (split [97]) [tV k]
/-- Which of the seven trees a number is. -/
def tN (n : Int) : Nat := ((n % 18446744073709551616) % 7).toNat
theorem tN_lt (n : Int) : tN n < 7 := by unfold tN; omega
theorem tree_code : ∀ k : Fin 7, setCode none [97] [tV k] = 0 := by decide +kernel
theorem tree_len : ∀ k : Fin 7, (entriesO (treeK k)).length = 1 := by decide +kernel
end Sp
theorem vers_one {w : World} {g : Nat} {t : TypeId} (k : Nat) (h : isBlk w g t (verC none 0 (Sp.tV k))) : Vers w (some ⟨g, 0, none⟩) [Sp.tV k] :=
  ⟨[(none, 0, Sp.tV k)], rfl, fun _ => ⟨g, 0, rfl, fun i u hi => by
    rw [Nat.zero_add, h.cell i]
    have : (verC none 0 (Sp.tV k)).toList ++ [] = (verC none 0 (Sp.tV k)).toList := List.append_nil _
    rw [versC, versC, this] at hi
    simpa using hi⟩, fun x hx => by
    obtain rfl := List.mem_singleton.1 hx
    exact ⟨Cells.nil _ _, Nat.zero_le _⟩⟩
set_option maxRecDepth 100000 in
set_option maxHeartbeats 4000000 in
theorem trees_calls (n : Int) (w : World) (hn : -9223372036854775808 ≤ n ∧ n ≤ 9223372036854775807) (K : KeysAt w 2) (M : MaxAt w) :
    Calls Tryz.prog 18 #[.int .i64 n] w fun e w' => ∃ a, e = .returned (.pointer a) ∧ TreeAt w' (.pointer a) (Sp.treeK (Sp.tN n)) ∧ Ext w w' := by
  obtain ⟨x, hx⟩ : ∃ x : Int, x = n % 18446744073709551616 := ⟨_, rfl⟩
  obtain ⟨k, hk⟩ : ∃ k, k = Sp.tN n := ⟨_, rfl⟩
  have hk7 : k < 7 := by rw [hk]; exact Sp.tN_lt n
  have u1 : IntKind.u64.wrap n = x := by rw [IntKind.wrap_u64, hx]
  have u2 : x.tmod 7 = (k : Int) := by
    rw [Int.tmod_eq_emod_of_nonneg (by omega), hk]
    unfold Sp.tN
    omega
  have u3 : IntKind.i64.wrap (k : Int) = (k : Int) := IntWalk.i64_in _ (by omega)
  have u4 : IntKind.i64.wrap (1 + (k : Int)) = 1 + (k : Int) := IntWalk.i64_in _ (by omega)
  have u5 : IntKind.u64.wrap (k : Int) = (k : Int) := by rw [IntKind.wrap_u64]; omega
  have KK := Lib.hid K
  have MM := Lib.hid M
  have CD := Lib.hid (show Sp.setCode none [97] [Sp.tV k] = 0 from Sp.tree_code ⟨k, hk7⟩)
  rw [← hk]
  have tok : True := trivial
  clear K M hk hx
  go_enter Tryz.func18, Tryz.ntmps18
  go_wp2_with (have _t := tok; (with_reducible refine at_bslice rfl ?_); refine bslice_new rfl 31 82 _ rfl appVer (by decide) (verC none 0 (Sp.tV k)) rfl rfl ?_; intro gv wv hgv hxv hbv; have XV := Lib.hid hxv; have BV := Lib.hid hbv; clear tok _t hgv hxv hbv)
  have SC := Lib.hid (set_calls none (.pointer none) [97] [Sp.tV k] (some ⟨gv, 0, none⟩) 1 wv (.inl ⟨rfl, rfl⟩) (fun t h => by cases h) (by decide) (vers_one k XV.out) (KK.out.ext BV.out) (max_kept MM.out BV.out))
  rw [CD.out] at SC
  refine SC.out.mono ?_
  rintro e w2 ⟨v2, rfl, h0, _, hb2⟩
  have T2 := Lib.hid (show TreeAt w2 v2 (Sp.treeK k) from h0 rfl)
  obtain ⟨a, rfl⟩ := tree_ptr T2.out
  have E2 := Lib.hid (BV.out.trans hb2)
  clear h0 hb2 SC
  go_wp2
  go_ret
  exact ⟨a, rfl, T2.out, E2.out⟩
end Go.Proofs.YtedjiaenodechaaGreatDoor
namespace Go.Proofs.YtedjiaenodechaaGreatDoor
open Go.RowKit Go.Shelf
attribute [local go_sem] yUpon strOf_toList
theorem PinsAt.ext {g : Nat} {w w' : World} {ps : List Pin} (h : PinsAt g w ps) (e : Ext w w') : PinsAt g w' ps := by
  obtain ⟨v, h1, h2, h3⟩ := h
  exact ⟨v, h1.below e, own_ext h2 e, fun x hx => ⟨(h3 x hx).1.ext e, (h3 x hx).2⟩⟩
theorem PinsAt.keys {g k : Nat} {w w' : World} {ps : List Pin} (h : PinsAt g w ps) (e : Only g w w') (K : KeysAt w k) : KeysAt w' k := by
  obtain ⟨v, h1, h2, h3⟩ := h
  exact keys_only K e h1 (row_sl h2)
theorem PinsAt.max {g : Nat} {w w' : World} {ps : List Pin} (h : PinsAt g w ps) (e : Only g w w') (K : MaxAt w) : MaxAt w' := by
  obtain ⟨v, h1, h2, h3⟩ := h
  exact max_only K e h1 (row_sl h2)
theorem PinsAt.lt {g : Nat} {w : World} {ps : List Pin} (h : PinsAt g w ps) : g < w.heap.size := by
  obtain ⟨v, h1, h2, h3⟩ := h
  exact h1.lt
theorem pins_new (w : World) (g : Nat) (h : isBlk w g 62 #[.slice none 0 0]) : PinsAt g w [] := ⟨_, h, World.ownsRow_nil _ _ _ _, fun x hx => by cases hx⟩
set_option maxRecDepth 100000 in
set_option maxHeartbeats 4000000 in
theorem awake28_calls (w : World) (K : KeysAt w 2) (M : MaxAt w) :
    Calls Tryz.prog 21 #[] w fun e w' => e = .returned (.bool true) ∧ Ext w w' := by
  have KK := Lib.hid K
  have MM := Lib.hid M
  have tok1 : True := trivial
  obtain ⟨o, ho⟩ : ∃ o, o = Sp.treeK 1 := ⟨_, rfl⟩
  have TC := Lib.hid (show ∀ W, KeysAt W 2 → MaxAt W → Calls Tryz.prog 18 #[.int .i64 1] W fun e w' => ∃ a, e = .returned (.pointer a) ∧ TreeAt w' (.pointer a) o ∧ Ext W w' from fun W K M => by
    have := trees_calls 1 W (by decide) K M
    rw [show Sp.tN 1 = 1 from by decide, ← ho] at this
    exact this)
  have L1 := Lib.hid (show (Sp.entriesO o).length = 1 by rw [ho]; exact Sp.tree_len 1)
  obtain ⟨d, hd⟩ : ∃ d, d = Sp.nsum (Sp.nodeT (o.getD .nil)) := ⟨_, rfl⟩
  have DD := Lib.hid (show d.length = 32 by rw [hd]; exact Sp.nsum_len _)
  have RT := Lib.hid fun v W (h : TreeAt W v o) (K : KeysAt W 2) => troot_calls o v W h K
  rw [← hd] at RT
  have DG := Lib.hid (show ∀ a n, dgP (a, o, n) = d from fun a n => hd.symm)
  have S1 := Lib.hid (show ∀ a, putS (a, o) (clampS 0) [] = [(a, o, 0)] from fun a => rfl)
  have UK := Lib.hid (show ∀ a n, useK d [(a, o, n)] = some 0 from fun a n => by
    unfold useK
    rw [List.findIdx?_cons, DG.out]
    simp)
  have S2 := Lib.hid (show ∀ a, foundV d (clampS 99) [(a, o, 0)] = .tuple #[.pointer a, .bool true] ∧ findP d (clampS 99) [(a, o, 0)] = [(a, o, 99)] from fun a => by
    have e1 : oldS (clampS 99) [(a, o, 0)] = [(a, o, 0)] := rfl
    constructor
    · unfold foundV; rw [e1, UK.out]; rfl
    · unfold findP useP; rw [e1, UK.out]; rfl)
  have S3 := Lib.hid (show ∀ a, foundV d (clampS 198) [(a, o, 99)] = .tuple #[.pointer a, .bool true] ∧ findP d (clampS 198) [(a, o, 99)] = [(a, o, 198)] from fun a => by
    have e1 : oldS (clampS 198) [(a, o, 99)] = [(a, o, 99)] := rfl
    constructor
    · unfold foundV; rw [e1, UK.out]; rfl
    · unfold findP useP; rw [e1, UK.out]; rfl)
  have S4 := Lib.hid (show ∀ a, foundV d (clampS 298) [(a, o, 198)] = .tuple #[.pointer none, .bool false] ∧ findP d (clampS 298) [(a, o, 198)] = [] from fun a => by
    have e1 : oldS (clampS 298) [(a, o, 198)] = [] := rfl
    constructor
    · unfold foundV; rw [e1]; rfl
    · unfold findP useP; rw [e1]; rfl)
  have S5 := Lib.hid (show (oldS (clampS 0) ([] : List Pin)).length = 0 from rfl)
  clear K M ho hd
  go_enter Tryz.func21, Tryz.ntmps21
  go_upto_region 2 with (have _t := tok1; ((with_reducible refine at_box (t := 62) rfl ?_); refine box_new rfl (cs := #[.slice none 0 0]) (t := 62) (by first | (go_simp; done) | (go_simp; rfl)) ?_; intro g w2 hg2 hx2 hb2; have P2 := Lib.hid (pins_new w2 g hx2); have B2 := Lib.hid (show Ext w w2 from hb2); have GG := Lib.hid hg2; clear tok1 _t hx2 hb2 hg2))
  go_wp2_with fail
  refine (TC.out w2 (KK.out.ext B2.out) (max_kept MM.out B2.out)).mono ?_
  rintro e w3 ⟨a3, rfl, ht3, hb3⟩
  have E3 := Lib.hid (B2.out.trans hb3)
  have PC := Lib.hid (put_calls g [] a3 o 0 w3 (P2.out.ext hb3) (by decide) ht3 (KK.out.ext E3.out))
  rw [S1.out] at PC
  have P3 := Lib.hid (P2.out.ext hb3)
  clear ht3 hb3
  go_wp2_with fail
  refine PC.out.mono ?_
  rintro e w4 ⟨rfl, hp4, ho4⟩
  have P4 := Lib.hid hp4
  have K4 := Lib.hid (P3.out.keys ho4 (KK.out.ext E3.out))
  have M4 := Lib.hid (P3.out.max ho4 (max_kept MM.out E3.out))
  have N4 := Lib.hid (show Below w.heap.size w w4 from Below.trans E3.out (ho4.below GG.out E3.out.size))
  clear hp4 ho4
  go_wp2_with fail
  refine (TC.out w4 K4.out M4.out).mono ?_
  rintro e w5 ⟨a5, rfl, ht5, hb5⟩
  have T5 := Lib.hid ht5
  have K5 := Lib.hid (K4.out.ext hb5)
  have M5 := Lib.hid (max_kept M4.out hb5)
  have P5 := Lib.hid (P4.out.ext hb5)
  have N5 := Lib.hid (N4.out.trans (hb5.mono N4.out.size))
  clear ht5 hb5
  go_wp2_with fail
  refine (RT.out _ w5 T5.out K5.out).mono ?_
  rintro e w6 ⟨rfl, hb6⟩
  have K6 := Lib.hid (K5.out.ext hb6)
  have M6 := Lib.hid (max_kept M5.out hb6)
  have P6 := Lib.hid (P5.out.ext hb6)
  have N6 := Lib.hid (N5.out.trans (hb6.mono N5.out.size))
  have FC := Lib.hid (pfind_calls g _ d DD.out 99 w6 P6.out (by simp) K6.out)
  rw [(S2.out a3).1, (S2.out a3).2] at FC
  clear hb6
  go_wp2_with fail
  refine FC.out.mono ?_
  rintro e w7 ⟨rfl, hp7, ho7⟩
  have P7 := Lib.hid hp7
  have K7 := Lib.hid (P6.out.keys ho7 K6.out)
  have M7 := Lib.hid (P6.out.max ho7 M6.out)
  have N7 := Lib.hid (show Below w.heap.size w w7 from N6.out.trans (ho7.below GG.out N6.out.size))
  clear hp7 ho7
  go_wp2_with fail
  refine (TC.out w7 K7.out M7.out).mono ?_
  rintro e w8 ⟨a8, rfl, ht8, hb8⟩
  have T8 := Lib.hid ht8
  have K8 := Lib.hid (K7.out.ext hb8)
  have M8 := Lib.hid (max_kept M7.out hb8)
  have P8 := Lib.hid (P7.out.ext hb8)
  have N8 := Lib.hid (N7.out.trans (hb8.mono N7.out.size))
  clear ht8 hb8
  go_wp2_with fail
  refine (RT.out _ w8 T8.out K8.out).mono ?_
  rintro e w9 ⟨rfl, hb9⟩
  have K9 := Lib.hid (K8.out.ext hb9)
  have M9 := Lib.hid (max_kept M8.out hb9)
  have P9 := Lib.hid (P8.out.ext hb9)
  have N9 := Lib.hid (N8.out.trans (hb9.mono N8.out.size))
  have FC9 := Lib.hid (pfind_calls g _ d DD.out 198 w9 P9.out (by simp) K9.out)
  rw [(S3.out a3).1, (S3.out a3).2] at FC9
  clear hb9
  go_wp2_with fail
  refine FC9.out.mono ?_
  rintro e w10 ⟨rfl, hp10, ho10⟩
  have P10 := Lib.hid hp10
  have K10 := Lib.hid (P9.out.keys ho10 K9.out)
  have M10 := Lib.hid (P9.out.max ho10 M9.out)
  have N10 := Lib.hid (show Below w.heap.size w w10 from N9.out.trans (ho10.below GG.out N9.out.size))
  clear hp10 ho10
  go_wp2_with fail
  refine (TC.out w10 K10.out M10.out).mono ?_
  rintro e w11 ⟨a11, rfl, ht11, hb11⟩
  have T11 := Lib.hid ht11
  have K11 := Lib.hid (K10.out.ext hb11)
  have M11 := Lib.hid (max_kept M10.out hb11)
  have P11 := Lib.hid (P10.out.ext hb11)
  have N11 := Lib.hid (N10.out.trans (hb11.mono N10.out.size))
  clear ht11 hb11
  go_wp2_with fail
  refine (RT.out _ w11 T11.out K11.out).mono ?_
  rintro e w12 ⟨rfl, hb12⟩
  have K12 := Lib.hid (K11.out.ext hb12)
  have M12 := Lib.hid (max_kept M11.out hb12)
  have P12 := Lib.hid (P11.out.ext hb12)
  have N12 := Lib.hid (N11.out.trans (hb12.mono N11.out.size))
  have FC12 := Lib.hid (pfind_calls g _ d DD.out 298 w12 P12.out (by simp) K12.out)
  rw [(S4.out a3).1, (S4.out a3).2] at FC12
  clear hb12
  go_wp2_with fail
  refine FC12.out.mono ?_
  rintro e w13 ⟨rfl, hp13, ho13⟩
  have P13 := Lib.hid hp13
  have K13 := Lib.hid (P12.out.keys ho13 K12.out)
  have M13 := Lib.hid (P12.out.max ho13 M12.out)
  have N13 := Lib.hid (show Below w.heap.size w w13 from N12.out.trans (ho13.below GG.out N12.out.size))
  have LC := Lib.hid (plen_calls g [] 0 w13 hp13 (by decide))
  rw [S5.out] at LC
  clear hp13 ho13
  go_wp2_with fail
  refine LC.out.mono ?_
  rintro e w14 ⟨rfl, hp14, ho14⟩
  have K14 := Lib.hid (P13.out.keys ho14 K13.out)
  have M14 := Lib.hid (P13.out.max ho14 M13.out)
  have N14 := Lib.hid (show Below w.heap.size w w14 from N13.out.trans (ho14.below GG.out N13.out.size))
  clear hp14 ho14
  go_wp2_with fail
  refine (TC.out w14 K14.out M14.out).mono ?_
  rintro e w15 ⟨a15, rfl, ht15, hb15⟩
  have LN := Lib.hid (len_calls o (.pointer a15) w15 ht15 (K14.out.ext hb15))
  rw [L1.out] at LN
  have N15 := Lib.hid (N14.out.trans (hb15.mono N14.out.size))
  clear ht15 hb15
  go_wp2_with fail
  refine LN.out.mono ?_
  rintro e w16 ⟨rfl, hb16⟩
  have N16 := Lib.hid (N15.out.trans (hb16.mono N15.out.size))
  clear hb16
  go_wp2
  go_ret
  exact ⟨rfl, N16.out⟩
end Go.Proofs.YtedjiaenodechaaGreatDoor
