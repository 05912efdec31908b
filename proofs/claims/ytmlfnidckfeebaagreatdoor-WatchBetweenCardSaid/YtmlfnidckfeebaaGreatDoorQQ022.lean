/- What a reader takes: plain. Nodes, plain: the bytes of a node tell the node. Deltas, plain: what is opened is needed; what differs is told; the order. What users see change, plain. Trees, plain: what TreeApart says. Who notes what a watcher tells has the files: plain. Watching: what is seen of a leaf; a change. Deltas: the names below two nodes, with what both have. -/
import Derived.Test.YtmlfnidckfeebaaGreatDoorQQ021
namespace Go.Proofs.YtmlfnidckfeebaaGreatDoor
namespace Sp
abbrev R := List UInt8 × Int
theorem take_zero {l : List UInt8} (h : (take l).2.2 ≠ 0) : (take l).1 = 0 ∧ (take l).2.1 = 0 := by
  unfold take at *
  cases hc : cend l 5 0 with
  | none => simp only []; split <;> simp
  | some i =>
    rw [hc] at h
    simp only [] at h ⊢
    split
    · simp
    · split
      · simp
      · rename_i h1 h2; rw [if_neg h1, if_neg h2] at h; exact absurd rfl h
end Sp
end Go.Proofs.YtmlfnidckfeebaaGreatDoor
namespace Go.Proofs.YtmlfnidckfeebaaGreatDoor
namespace Sp
structure Tells {α : Type} (f : α → W → W) (enc : α → Bs) (pre ok : α → Prop) : Prop where
  out : ∀ a x, pre a → (f a x).2 = 0 → x.2 = 0 ∧ (f a x).1 = x.1 ++ enc a ∧ ok a
  inj : ∀ a b r s, ok a → ok b → enc a ++ r = enc b ++ s → a = b ∧ r = s
theorem Tells.map {α β : Type} {f : α → W → W} {enc : α → Bs} {pre ok : α → Prop} (h : Tells f enc pre ok) (g : β → α) (hg : ∀ b c, g b = g c → b = c) : Tells (fun b => f (g b)) (fun b => enc (g b)) (fun b => pre (g b)) (fun b => ok (g b)) where
  out a x p e := h.out _ _ p e
  inj a b r s ha hb e := by
    obtain ⟨h1, h2⟩ := h.inj _ _ _ _ ha hb e
    exact ⟨hg _ _ h1, h2⟩
end Sp
end Go.Proofs.YtmlfnidckfeebaaGreatDoor
namespace Go.Proofs.YtmlfnidckfeebaaGreatDoor
open Go.RowKit
namespace Sp
def differT (a b : T) : List Bs := (openedT a b).filter (leafdiff a b)
theorem differ_dir {oa ob : Option T} {ma mb : List DE} (PA : Both oa ma) (PB : Both ob mb) : ∀ p ∈ differT (oa.getD .nil) (ob.getD .nil), check p = 0 ∧ leafdiff (oa.getD .nil) (ob.getD .nil) p = true := fun p hp => by
  obtain ⟨h1, h2⟩ := List.mem_filter.1 hp
  unfold openedT at h1
  split at h1
  · cases h1
  · rcases openT_dir PA PB 5 [] (.inl rfl) p h1 with rfl | h
    · unfold leafdiff at h2
      rw [leaf_root PA, leaf_root PB] at h2
      cases h2
    · exact ⟨h, h2⟩
end Sp
end Go.Proofs.YtmlfnidckfeebaaGreatDoor
namespace Go.Proofs.YtmlfnidckfeebaaGreatDoor
open Go.RowKit
namespace Sp
structure Chg where
  path : Bs
  kind : Int
  was : Bs
  now : Bs
deriving DecidableEq, Inhabited
def data0 (l : List Ver) : Bs := ((winner l).map (·.data)).getD []
def kindS (x y : List Ver) : Int := if live x = [] ∧ live y ≠ [] then 1 else if live x ≠ [] ∧ live y = [] then 2 else if data0 x ≠ data0 y then 3 else if (live x).length ≠ (live y).length then 4 else 0
def changeS (p : Bs) (x y : List Ver) : Option Chg := if kindS x y = 0 then none else some ⟨p, kindS x y, data0 x, data0 y⟩
def betweenL (l : List Bs) (f g : Bs → List Ver) : List Chg := l.filterMap fun p => changeS p (f p) (g p)
def betweenS (a b : T) : List Chg := betweenL (differT a b) (fun p => (nodeS a p).1) (fun p => (nodeS b p).1)
theorem fm_congr {α β : Type} {f g : α → Option β} : ∀ (l : List α), (∀ x ∈ l, f x = g x) → l.filterMap f = l.filterMap g
  | [], _ => rfl
  | x :: r, h => by rw [List.filterMap_cons, List.filterMap_cons, h x (List.mem_cons_self ..), fm_congr r fun y hy => h y (List.mem_cons_of_mem _ hy)]
theorem between_both {oa ob : Option T} {ma mb : List DE} (PA : Both oa ma) (PB : Both ob mb) : betweenL (differT (oa.getD .nil) (ob.getD .nil)) (rget ma) (rget mb) = betweenS (oa.getD .nil) (ob.getD .nil) := by
  unfold betweenS betweenL
  refine fm_congr _ fun p hp => ?_
  have hc := (differ_dir PA PB p hp).1
  rw [(names_node PA (.inr hc)).2, (names_node PB (.inr hc)).2]
theorem told_leaf0 {o : Option T} {m : List DE} (P : Both o m) : ∀ e ∈ m, leaf e.2 = 0 ∧ e.2 ≠ [] := fun e he => by
  refine ⟨?_, P.full e he⟩
  have h1 : (split e.1, e.2) ∈ entriesO o := by rw [← P.eq]; exact List.mem_map_of_mem he
  cases o with
  | none => cases h1
  | some t => exact ent_leaf t (P.go.1 t rfl) _ h1
end Sp
end Go.Proofs.YtmlfnidckfeebaaGreatDoor
namespace Go.Proofs.YtmlfnidckfeebaaGreatDoor
open Go.RowKit
namespace Sp
structure Pair (o : Option T) (m : List DE) : Prop where
  go : GoodO o
  gm : GoodM m
  eq : toP m = entriesO o
theorem Pair.told {o : Option T} {m : List DE} (h : Pair o m) : Sp.told o = m := told_eq h.eq
theorem Pair.ok {o : Option T} {m : List DE} (h : Pair o m) : Ok (o.getD .nil) := getD_ok h.go.1
theorem Pair.size {o : Option T} {m : List DE} (h : Pair o m) : sizeT (o.getD .nil) ≤ 128 := by
  rw [sizeT_len, entries_getD]; exact h.go.2
end Sp
end Go.Proofs.YtmlfnidckfeebaaGreatDoor
namespace Go.Proofs.YtmlfnidckfeebaaGreatDoor
open Go.RowKit
namespace Sp
theorem both_none : Both none [] := ⟨good_none, goodM_nil, rfl⟩
end Sp
end Go.Proofs.YtmlfnidckfeebaaGreatDoor
namespace Go.Proofs.YtmlfnidckfeebaaGreatDoor
open Go.RowKit Go.Shelf
attribute [local go_sem] yUpon strOf_toList
def anyV (l : List Sp.Ver) : Value := if Sp.live l = [] then .nilIface else .iface 233 (.agg #[.string (strOf (Sp.data0 l)), .int .i64 (Sp.live l).length])
theorem data0_win (l : List Sp.Ver) : Sp.data0 l = ((Sp.winner l).getD Sp.verZ).data := by
  unfold Sp.data0
  cases Sp.winner l <;> rfl
set_option maxRecDepth 100000 in
theorem run_any_file (l : List Sp.Ver) (w : World) : (Instr.typeAssert (anyV l) 20 233 true).run Tryz.prog w = .ok (.tuple #[.agg #[.string (strOf (Sp.data0 l)), .int .i64 (Sp.live l).length], .bool (decide (Sp.live l ≠ []))]) w := by
  unfold anyV
  by_cases h : Sp.live l = []
  · have hd : Sp.data0 l = [] := by unfold Sp.data0 Sp.winner; rw [h]; rfl
    rw [if_pos h, hd, h]
    rfl
  · rw [if_neg h]
    have hd : decide (Sp.live l ≠ []) = true := decide_eq_true h
    rw [hd]
    generalize Value.agg #[.string (strOf (Sp.data0 l)), .int .i64 (Sp.live l).length] = v
    rfl
set_option maxRecDepth 100000 in
set_option maxHeartbeats 4000000 in
theorem wseen_calls (l : List Sp.Ver) (A : Option Addr) (cap : Nat) (w : World) (h : Vers w A l) (hl : l.length ≤ 1000) :
    Calls Tryz.prog 181 #[.slice A l.length cap] w fun e w' => e = .returned (anyV l) ∧ Ext w w' := by
  have WC := Lib.hid (winner_is l A cap w h hl)
  have LC := Lib.hid fun W (e : Ext w W) => live_calls l A cap W (h.ext e) (by omega)
  have D0 := Lib.hid (data0_win l)
  obtain ⟨av, hav⟩ : ∃ av, av = anyV l := ⟨_, rfl⟩
  rw [← hav]
  have AV := Lib.hid (show av = if Sp.live l = [] then .nilIface else .iface 233 (.agg #[.string (strOf (Sp.data0 l)), .int .i64 (Sp.live l).length]) from hav)
  obtain ⟨x, hx⟩ : ∃ x, x = (Sp.winner l).getD Sp.verZ := ⟨_, rfl⟩
  rw [← hx] at WC D0
  rw [D0.out] at AV
  obtain ⟨bq, hbq⟩ : ∃ bq, bq = decide (Sp.live l ≠ []) := ⟨_, rfl⟩
  rw [← hbq] at WC
  have BQ := Lib.hid hbq
  clear h hav hx D0 hbq
  have tok1 : True := trivial
  go_enter Tryz.func181, Tryz.ntmps181
  go_wp2_with fail
  refine WC.out.mono ?_
  rintro e w1 ⟨A1, c1, rfl, hb1⟩
  have E1 := Lib.hid hb1
  clear hb1 WC
  go_upto_region 2 with (have _t := tok1; ((with_reducible refine at_alloc (t := 71) rfl ?_); refine box_new rfl (cs := #[.int .i64 0, .int .i64 0, .slice none 0 0, .bool false, .string ⟨#[]⟩]) (t := 71) (by first | (go_simp; done) | (go_simp; rfl)) ?_; intro g2 w2 hg2 hx2 hb2; have H2 := Lib.hid hx2; have B2 := Lib.hid (show Ext w1 w2 from hb2); have GG2 := Lib.hid hg2; have k0 := hx2.frozen 0; have k1 := hx2.frozen 1; have k2 := hx2.frozen 2; have k3 := hx2.frozen 3; have k4 := hx2.frozen 4; have e0 := (hx2.cell 0).trans rfl; have e1 := (hx2.cell 1).trans rfl; have e2 := (hx2.cell 2).trans rfl; have e3 := (hx2.cell 3).trans rfl; have e4 := (hx2.cell 4).trans rfl; clear tok1 _t hx2 hb2 hg2))
  obtain ⟨w3, hw3⟩ : ∃ w3, w3 = ((((w2.setCell ⟨g2, 0, none⟩ (.int .i64 x.dot.1)).setCell ⟨g2, 1, none⟩ (.int .i64 x.dot.2)).setCell ⟨g2, 2, none⟩ (.slice A1 x.past.length c1)).setCell ⟨g2, 3, none⟩ (.bool x.dead)).setCell ⟨g2, 4, none⟩ (.string (strOf x.data)) := ⟨_, rfl⟩
  have X3 := Lib.hid (show isBlk w3 g2 71 #[.int .i64 x.dot.1, .int .i64 x.dot.2, .slice A1 x.past.length c1, .bool x.dead, .string (strOf x.data)] by rw [hw3]; exact ((((H2.out.put 0 _ rfl).put 1 _ rfl).put 2 _ rfl).put 3 _ rfl).put 4 _ rfl)
  have E3 := Lib.hid (show Ext w1 w3 by rw [hw3]; exact ((((B2.out.setCell GG2.out _).setCell GG2.out _).setCell GG2.out _).setCell GG2.out _).setCell GG2.out _)
  rw [← hw3]
  clear hw3 k0 k1 k2 k3 k4 e0 e1 e2 e3 e4
  have F3 := Lib.hid (E1.out.trans E3.out)
  by_cases hq : Sp.live l = []
  · have AV2 := Lib.hid (show av = .nilIface by rw [AV.out, if_pos hq])
    obtain rfl : bq = false := by rw [BQ.out, decide_eq_false_iff_not]; simpa using hq
    clear hq AV BQ
    go_wp2
    go_ret
    exact ⟨by rw [AV2.out]; rfl, F3.out⟩
  · have AV2 := Lib.hid (show av = .iface 233 (.agg #[.string (strOf x.data), .int .i64 (Sp.live l).length]) by rw [AV.out, if_neg hq])
    obtain rfl : bq = true := by rw [BQ.out]; exact decide_eq_true hq
    obtain ⟨q, hqq⟩ : ∃ q, q = Sp.live l := ⟨_, rfl⟩
    rw [← hqq] at LC AV2
    clear hq AV hqq BQ
    go_wp2_with fail
    refine wp_region_planT (fun W => Ext w3 W) 7 [(true, 0), (true, 1), (true, 2), (false, 3), (false, 4), (false, 5), (false, 6)] (by kernel_rfl) (by kernel_rfl) (Ext.refl w3).drew ?_
    repeat (refine plan_float rfl (fun K hK => ?_)
            first
            | (apply Exists.intro
               refine ⟨Or.inl ⟨rfl, fun W hS => ?_⟩, ?_⟩
               · have hz : Ext w3 W := hS; have f4 := ((X3.out.below hz).cell 4).trans rfl
                 go_simp
                 first | done | exact rfl
               go_simp
               refine hK _ ?_
               clear hK K)
            | (refine floatT_no' rfl ?_; go_simp; refine hK _ ?_; clear hK K))
    refine plan_only rfl (fun Q' hQ' => ?_)
    go_wp2_with fail
    refine (LC.out w3.drew (F3.out.trans (Ext.refl w3).drew)).mono ?_
    rintro e w4 ⟨v4, rfl, hO4, hb4⟩
    obtain ⟨A4, c4, rfl, _⟩ := hO4.read
    have E4 := Lib.hid (show Ext w3 w4 from ((Ext.refl w3).drew).trans hb4)
    clear hO4 hb4
    go_wp2
    refine hQ' _ _ E4.out ?_
    clear hQ'
    refine plan_only rfl (fun Q' hQ' => ?_)
    go_wp2
    refine hQ' _ _ E4.out ?_
    clear hQ'
    refine plan_only rfl (fun Q' hQ' => ?_)
    go_wp2
    refine hQ' _ _ E4.out ?_
    clear hQ'
    refine plan_only rfl (fun Q' hQ' => ?_)
    go_wp2
    refine hQ' _ _ E4.out ?_
    clear hQ'
    refine plan_nil ?_
    go_wp2_with fail
    refine ⟨rfl, ?_⟩
    go_wp2
    go_ret
    exact ⟨by rw [AV2.out]; rfl, F3.out.trans E4.out⟩
abbrev chgC (c : Sp.Chg) : Array Value := #[.string (strOf c.path), .int .i64 c.kind, .string (strOf c.was), .string (strOf c.now)]
set_option maxRecDepth 100000 in
set_option maxHeartbeats 8000000 in
theorem wchange_calls (p : Sp.Bs) (x y : List Sp.Ver) (A B : Option Addr) (c c' : Nat) (w : World) (h : Vers w A x) (h' : Vers w B y) (hl : x.length ≤ 1000) (hl' : y.length ≤ 1000) :
    Calls Tryz.prog 115 #[.string (strOf p), .slice A x.length c, .slice B y.length c'] w fun e w' => e = .returned (.tuple #[.agg (chgC ⟨p, Sp.kindS x y, Sp.data0 x, Sp.data0 y⟩), .bool (decide (Sp.kindS x y ≠ 0))]) ∧ Ext w w' := by
  have SX := Lib.hid fun W (e : Ext w W) => wseen_calls x A c W (h.ext e) hl
  have SY := Lib.hid fun W (e : Ext w W) => wseen_calls y B c' W (h'.ext e) hl'
  have tx := fun w => run_any_file x w
  have ty := fun w => run_any_file y w
  have DX := show Sp.live x = [] → Sp.data0 x = [] from fun h => by unfold Sp.data0 Sp.winner; rw [h]; rfl
  have DY := show Sp.live y = [] → Sp.data0 y = [] from fun h => by unfold Sp.data0 Sp.winner; rw [h]; rfl
  have KD : Sp.kindS x y = if Sp.live x = [] ∧ Sp.live y ≠ [] then 1 else if Sp.live x ≠ [] ∧ Sp.live y = [] then 2 else if Sp.data0 x ≠ Sp.data0 y then 3 else if (Sp.live x).length ≠ (Sp.live y).length then 4 else 0 := rfl
  obtain ⟨k, hk⟩ : ∃ k, k = Sp.kindS x y := ⟨_, rfl⟩
  obtain ⟨dx, hdx⟩ : ∃ dx, dx = Sp.data0 x := ⟨_, rfl⟩
  obtain ⟨dy, hdy⟩ : ∃ dy, dy = Sp.data0 y := ⟨_, rfl⟩
  obtain ⟨nx, hnx⟩ : ∃ nx, nx = (Sp.live x).length := ⟨_, rfl⟩
  obtain ⟨ny, hny⟩ : ∃ ny, ny = (Sp.live y).length := ⟨_, rfl⟩
  obtain ⟨bx, hbx⟩ : ∃ bx, bx = decide (Sp.live x ≠ []) := ⟨_, rfl⟩
  obtain ⟨by', hby⟩ : ∃ by', by' = decide (Sp.live y ≠ []) := ⟨_, rfl⟩
  obtain ⟨bk, hbk⟩ : ∃ bk, bk = decide (Sp.kindS x y ≠ 0) := ⟨_, rfl⟩
  have KK := Lib.hid (show (bx = false → dx = [] ∧ nx = 0) ∧ (by' = false → dy = [] ∧ ny = 0) ∧ k = if bx = false ∧ by' = true then 1 else if bx = true ∧ by' = false then 2 else if dx ≠ dy then 3 else if nx ≠ ny then 4 else 0 by
    refine ⟨fun h => ?_, fun h => ?_, ?_⟩
    · have h0 : Sp.live x = [] := by rw [hbx] at h; simpa using h
      exact ⟨by rw [hdx, DX h0], by rw [hnx, h0]; rfl⟩
    · have h0 : Sp.live y = [] := by rw [hby] at h; simpa using h
      exact ⟨by rw [hdy, DY h0], by rw [hny, h0]; rfl⟩
    · rw [hk, KD, hbx, hby, hdx, hdy, hnx, hny]
      by_cases h1 : Sp.live x = [] <;> by_cases h2 : Sp.live y = [] <;> simp [h1, h2])
  have BK := Lib.hid (show bk = decide (k ≠ 0) by rw [hbk, hk])
  rw [← hdx, ← hnx, ← hbx] at tx
  rw [← hdy, ← hny, ← hby] at ty
  rw [← hbk, ← hk, ← hdx, ← hdy]
  have nl : (nx : Int) ≤ 1000 := by have : (Sp.live x).length ≤ x.length := List.length_filter_le _ _; omega
  obtain ⟨ax, hax⟩ : ∃ ax, ax = anyV x := ⟨_, rfl⟩
  obtain ⟨ay, hay⟩ : ∃ ay, ay = anyV y := ⟨_, rfl⟩
  rw [← hax] at SX tx
  rw [← hay] at SY ty
  clear h h' DX DY KD hk hdx hdy hnx hny hbx hby hbk hax hay
  go_enter Tryz.func115, Tryz.ntmps115
  have tokF : True := trivial
  have tokG : True := trivial
  go_upto_region 1 with fail
  obtain ⟨w0, hw0⟩ : ∃ w0, w0 = w.alloc (.cells #[.string ⟨#[]⟩, .int .i64 0, .string ⟨#[]⟩, .string ⟨#[]⟩] 88) := ⟨_, rfl⟩
  have X0 := Lib.hid (show isBlk w0 w.heap.size 88 #[.string ⟨#[]⟩, .int .i64 0, .string ⟨#[]⟩, .string ⟨#[]⟩] by rw [hw0]; exact box_at w _ _)
  have E0 := Lib.hid (show Ext w w0 by rw [hw0]; exact Ext.alloc _ _)
  rw [← hw0]
  clear hw0
  go_wp2_with fail
  refine (SX.out w0 E0.out).mono ?_
  rintro e w1 ⟨rfl, hb1⟩
  have E1 := Lib.hid (E0.out.trans hb1)
  have X1 := Lib.hid (X0.out.below hb1)
  clear hb1 X0 SX
  go_upto_region 2 with (have _t := tokF; ((with_reducible refine at_alloc (t := 233) rfl ?_); refine box_new rfl (cs := #[.string ⟨#[]⟩, .int .i64 0]) (t := 233) (by first | (go_simp; done) | (go_simp; rfl)) ?_; intro g2 w2 hg2 hx2 hb2; have H2 := Lib.hid hx2; have B2 := Lib.hid (show Ext w1 w2 from hb2); have GG2 := Lib.hid hg2; have k0 := hx2.frozen 0; have k1 := hx2.frozen 1; have e0 := (hx2.cell 0).trans rfl; have e1 := (hx2.cell 1).trans rfl; clear tokF _t hx2 hb2 hg2))
  obtain ⟨w3, hw3⟩ : ∃ w3, w3 = (w2.setCell ⟨g2, 0, none⟩ (.string (strOf dx))).setCell ⟨g2, 1, none⟩ (.int .i64 nx) := ⟨_, rfl⟩
  have X3 := Lib.hid (show isBlk w3 g2 233 #[.string (strOf dx), .int .i64 nx] by rw [hw3]; exact (H2.out.put 0 _ rfl).put 1 _ rfl)
  have E3 := Lib.hid (show Ext w1 w3 by rw [hw3]; exact (B2.out.setCell GG2.out _).setCell GG2.out _)
  rw [← hw3]
  clear hw3 k0 k1 e0 e1
  go_wp2_with fail
  refine (SY.out w3 (E1.out.trans E3.out)).mono ?_
  rintro e w4 ⟨rfl, hb4⟩
  have E4 := Lib.hid (E3.out.trans hb4)
  have X4 := Lib.hid (X3.out.below hb4)
  have Z4 := Lib.hid (X1.out.below E4.out)
  clear hb4 X3 X1 SY
  go_upto_region 3 with (have _t := tokG; ((with_reducible refine at_alloc (t := 233) rfl ?_); refine box_new rfl (cs := #[.string ⟨#[]⟩, .int .i64 0]) (t := 233) (by first | (go_simp; done) | (go_simp; rfl)) ?_; intro g5 w5 hg5 hx5 hb5; have H5 := Lib.hid hx5; have B5 := Lib.hid (show Ext w4 w5 from hb5); have GG5 := Lib.hid hg5; have k0 := hx5.frozen 0; have k1 := hx5.frozen 1; have e0 := (hx5.cell 0).trans rfl; have e1 := (hx5.cell 1).trans rfl; clear tokG _t hx5 hb5 hg5))
  obtain ⟨w6, hw6⟩ : ∃ w6, w6 = (w5.setCell ⟨g5, 0, none⟩ (.string (strOf dy))).setCell ⟨g5, 1, none⟩ (.int .i64 ny) := ⟨_, rfl⟩
  have X6 := Lib.hid (show isBlk w6 g5 233 #[.string (strOf dy), .int .i64 ny] by rw [hw6]; exact (H5.out.put 0 _ rfl).put 1 _ rfl)
  have E6 := Lib.hid (show Ext w4 w6 by rw [hw6]; exact (B5.out.setCell GG5.out _).setCell GG5.out _)
  rw [← hw6]
  clear hw6 k0 k1 e0 e1
  have X46 := Lib.hid (X4.out.below E6.out)
  have Z6 := Lib.hid (Z4.out.below E6.out)
  have F6 := Lib.hid (E1.out.trans (E4.out.trans E6.out))
  have f0 := (X46.out.cell 0).trans rfl
  have f2 := (X6.out.cell 0).trans rfl
  have tokC : True := trivial
  go_upto_block 0 with (have _t := tokC; ((with_reducible refine at_alloc (t := 88) rfl ?_); refine box_new rfl (cs := #[.string ⟨#[]⟩, .int .i64 0, .string ⟨#[]⟩, .string ⟨#[]⟩]) (t := 88) (by first | (go_simp; done) | (go_simp; rfl)) ?_; intro g7 w7 hg7 hx7 hb7; have H7 := Lib.hid hx7; have B7 := Lib.hid (show Ext w6 w7 from hb7); have GG7 := Lib.hid hg7; have k0 := hx7.frozen 0; have k1 := hx7.frozen 1; have k2 := hx7.frozen 2; have k3 := hx7.frozen 3; have e0 := (hx7.cell 0).trans rfl; have e1 := (hx7.cell 1).trans rfl; have e2 := (hx7.cell 2).trans rfl; have e3 := (hx7.cell 3).trans rfl; clear tokC _t hx7 hb7 hg7))
  obtain ⟨w8, hw8⟩ : ∃ w8, w8 = (((w7.setCell ⟨g7, 0, none⟩ (.string (strOf p))).setCell ⟨g7, 1, none⟩ (.int .i64 0)).setCell ⟨g7, 2, none⟩ (.string (strOf dx))).setCell ⟨g7, 3, none⟩ (.string (strOf dy)) := ⟨_, rfl⟩
  have X8 := Lib.hid (show isBlk w8 g7 88 #[.string (strOf p), .int .i64 0, .string (strOf dx), .string (strOf dy)] by rw [hw8]; exact (((H7.out.put 0 _ rfl).put 1 _ rfl).put 2 _ rfl).put 3 _ rfl)
  have E68 := Lib.hid (show Ext w6 w8 by rw [hw8]; exact (((B7.out.setCell GG7.out _).setCell GG7.out _).setCell GG7.out _).setCell GG7.out _)
  rw [← hw8]
  clear hw8 k0 k1 k2 k3 e0 e1 e2 e3 f0 f2
  have E8 := Lib.hid (F6.out.trans E68.out)
  have Z8 := Lib.hid (Z6.out.below E68.out)
  have XA := Lib.hid (X46.out.below E68.out)
  have XB := Lib.hid (X6.out.below E68.out)
  have G7 := Lib.hid (show w.heap.size ≤ g7 from Nat.le_trans F6.out.size GG7.out)
  have N7 := Lib.hid (show w.heap.size ≠ g7 by have h1 := Z6.out.lt; have h2 := GG7.out; omega)
  have a0 := (XA.out.cell 0).trans rfl
  have a1 := (XA.out.cell 1).trans rfl
  have b0 := (XB.out.cell 0).trans rfl
  have b1 := (XB.out.cell 1).trans rfl
  have c0 := X8.out.frozen 1
  have c1 := (X8.out.cell 1).trans rfl
  go_cut [31] (fun _ wx => isBlk wx g7 88 #[.string (strOf p), .int .i64 k, .string (strOf dx), .string (strOf dy)] ∧ isBlk wx w.heap.size 88 #[.string ⟨#[]⟩, .int .i64 0, .string ⟨#[]⟩, .string ⟨#[]⟩] ∧ Ext w wx)
  case first =>
    cases bx with
    | false =>
      cases by' with
      | false =>
        obtain ⟨d1, n1⟩ := KK.out.1 rfl
        obtain ⟨d2, n2⟩ := KK.out.2.1 rfl
        have K0 := Lib.hid (show k = 0 by rw [KK.out.2.2, d1, d2, n1, n2]; rfl)
        subst d1 n1 d2 n2
        clear KK
        go_wp2
        go_meet
        case rel => exact ⟨by rw [K0.out]; exact X8.out, Z8.out, E8.out⟩
      | true =>
        have K0 := Lib.hid (show k = 1 by rw [KK.out.2.2]; rfl)
        clear KK
        go_wp2
        go_meet
        case rel => exact ⟨by rw [K0.out]; exact X8.out.put 1 _ rfl, Z8.out.far N7.out _, E8.out.setCell G7.out _⟩
    | true =>
      cases by' with
      | false =>
        have K0 := Lib.hid (show k = 2 by rw [KK.out.2.2]; rfl)
        clear KK
        go_wp2
        go_meet
        case rel => exact ⟨by rw [K0.out]; exact X8.out.put 1 _ rfl, Z8.out.far N7.out _, E8.out.setCell G7.out _⟩
      | true =>
        by_cases hd : dx = dy
        · have t1 : (dx == dy) = true := by rw [hd]; exact beq_self_eq_true _
          by_cases hn : nx = ny
          · have t2 : ((nx : Int) == (ny : Int)) = true := by rw [hn]; exact beq_self_eq_true _
            have K0 := Lib.hid (show k = 0 by rw [KK.out.2.2, hd, hn]; simp)
            clear KK hd hn
            go_wp2
            go_meet
            case rel => exact ⟨by rw [K0.out]; exact X8.out, Z8.out, E8.out⟩
          · have t2 : ((nx : Int) == (ny : Int)) = false := by rw [beq_eq_false_iff_ne]; omega
            have K0 := Lib.hid (show k = 4 by rw [KK.out.2.2, hd]; simp [hn])
            clear KK hd hn
            go_wp2
            go_meet
            case rel => exact ⟨by rw [K0.out]; exact X8.out.put 1 _ rfl, Z8.out.far N7.out _, E8.out.setCell G7.out _⟩
        · have t1 : (dx == dy) = false := by rw [beq_eq_false_iff_ne]; exact hd
          have K0 := Lib.hid (show k = 3 by rw [KK.out.2.2]; simp [hd])
          clear KK hd
          go_wp2
          go_meet
          case rel => exact ⟨by rw [K0.out]; exact X8.out.put 1 _ rfl, Z8.out.far N7.out _, E8.out.setCell G7.out _⟩
  case rest =>
    obtain ⟨hx9, hz9, he9⟩ := hcut
    obtain ⟨w9, hw9⟩ : ∃ w9, w9 = wc := ⟨_, rfl⟩
    rw [← hw9] at hx9 hz9 he9 ⊢
    have X9 := Lib.hid hx9
    have Z9 := Lib.hid hz9
    have E9 := Lib.hid he9
    clear hx9 hz9 he9 hw9 a0 a1 b0 b1 c0 c1 KK
    go_wp2_with fail
    refine wp_region_planT (fun W => isBlk W g7 88 #[.string (strOf p), .int .i64 k, .string (strOf dx), .string (strOf dy)]) 5 [(true, 0), (true, 1), (true, 2), (true, 3), (false, 4)] (by kernel_rfl) (by kernel_rfl) X9.out.drew ?_
    repeat (refine plan_float rfl (fun K hK => ?_)
            first
            | (apply Exists.intro
               refine ⟨Or.inl ⟨rfl, fun W hS => ?_⟩, ?_⟩
               · have f0 := (hS.cell 0).trans rfl; have f1 := (hS.cell 1).trans rfl; have f2 := (hS.cell 2).trans rfl; have f3 := (hS.cell 3).trans rfl
                 go_simp
                 first | done | exact rfl
               go_simp
               refine hK _ ?_
               clear hK K)
            | (refine floatT_no' rfl ?_; go_simp; refine hK _ ?_; clear hK K))
    have ZA := Lib.hid Z9.out.drew
    have XA := Lib.hid X9.out.drew
    have EW := Lib.hid (show Ext w w9.drew from E9.out.trans (Ext.refl w9).drew)
    have g0 := ZA.out.frozen 0
    have g1 := ZA.out.frozen 1
    have g2 := ZA.out.frozen 2
    have g3 := ZA.out.frozen 3
    have e0 := (ZA.out.cell 0).trans rfl
    have e1 := (ZA.out.cell 1).trans rfl
    have e2 := (ZA.out.cell 2).trans rfl
    have e3 := (ZA.out.cell 3).trans rfl
    obtain ⟨wd, hwd⟩ : ∃ wd, wd = w9.drew := ⟨_, rfl⟩
    rw [← hwd] at ZA XA EW g0 g1 g2 g3 e0 e1 e2 e3 ⊢
    clear hwd
    have N8 := N7.out.symm
    refine plan_only rfl (fun Q' hQ' => ?_)
    go_wp2
    refine hQ' _ _ ((((XA.out.far N8 _).far N8 _).far N8 _).far N8 _) ?_
    clear hQ'
    refine plan_nil ?_
    go_wp2_with fail
    refine ⟨rfl, ?_⟩
    go_wp2
    refine bodyPost_ret (results_cell_two rfl _ _ w.heap.size 88 #[.string (strOf p), .int .i64 k, .string (strOf dx), .string (strOf dy)] _ rfl ((((ZA.out.put 0 _ rfl).put 1 _ rfl).put 2 _ rfl).put 3 _ rfl) Tryz.underlying88 rfl (by kernel_rfl)) rfl ?_
    refine ⟨?_, (((EW.out.setCell (p := ⟨w.heap.size, 0, none⟩) (by simp) _).setCell (p := ⟨w.heap.size, 1, none⟩) (by simp) _).setCell (p := ⟨w.heap.size, 2, none⟩) (by simp) _).setCell (p := ⟨w.heap.size, 3, none⟩) (by simp) _⟩
    have BKF := BK.out
    by_cases hk0 : k = 0
    · rw [BKF, hk0]
      rfl
    · rw [BKF, decide_eq_true hk0]
      simp [hk0, chgC]
end Go.Proofs.YtmlfnidckfeebaaGreatDoor
namespace Go.Proofs.YtmlfnidckfeebaaGreatDoor
open Go.RowKit Go.Shelf
attribute [local go_sem] yUpon strOf_toList
theorem kids_tail {w : World} {g o c : Nat} {k : Sp.Kid} {r : List Sp.Kid} (h : Kids w (some ⟨g, o, none⟩) (k :: r)) (hc : r.length + 1 ≤ c) (A : Option Addr) (hA : c ≠ 1 → A = some ⟨g, o + 33, none⟩) : Kids w A r := by
  refine ⟨?_, fun x hx => h.2 x (List.mem_cons_of_mem _ hx)⟩
  cases r with
  | nil => exact Cells.nil _ _
  | cons y s =>
    have hc1 : c ≠ 1 := by simp at hc; omega
    have hk := (h.2 k (List.mem_cons_self ..)).1
    obtain ⟨g', o', e, hcs⟩ := h.1 (by simp [kidsC, kidL])
    cases e
    intro _
    refine ⟨g, o + 33, hA hc1, fun i u hu => ?_⟩
    rw [Nat.add_assoc]
    refine hcs (33 + i) u ?_
    rw [kidsC, List.getElem?_append_right (by rw [kidL_len k hk]; omega), kidL_len k hk, Nat.add_sub_cancel_left]
    exact hu
theorem kids_head {w : World} {A : Option Addr} {k : Sp.Kid} {r : List Sp.Kid} (h : Kids w A (k :: r)) : ∃ g o, A = some ⟨g, o, none⟩ ∧ w.cell? ⟨g, o, none⟩ = some (.string (strOf k.1)) ∧ w.rangeAt g (o + 1) (k.2.map byteV) := by
  obtain ⟨g, o, hA, hc⟩ := h.1 (by simp [kidsC, kidL])
  refine ⟨g, o, hA, ?_, fun i u hu => ?_⟩
  · exact hc 0 _ rfl
  · rw [Nat.add_assoc]
    refine hc (1 + i) u ?_
    rw [kidsC, kidL, List.cons_append, show 1 + i = i + 1 by omega, List.getElem?_cons_succ, List.getElem?_append_left (List.getElem?_eq_some_iff.1 hu).1]
    exact hu
def slLen : Value → Nat
  | .slice _ n _ => n
  | _ => 0
set_option maxRecDepth 100000 in
set_option maxHeartbeats 8000000 in
theorem kids2_calls (x y : List Sp.Kid) (A B : Option Addr) (c c' : Nat) (w : World) (hx : Kids w A x) (hy : Kids w B y) (cx : x.length ≤ c) (cy : y.length ≤ c') (lx : x.length ≤ 1000) (ly : y.length ≤ 1000) :
    Calls Tryz.prog 213 #[.slice A x.length c, .slice B y.length c'] w fun e w' => ∃ v, e = .returned v ∧ w'.ownsRow w.heap.size 263 67 v (Sp.kids2 x y).length (twosC (Sp.kids2 x y)) ∧ Ext w w' := by
  have HX := Lib.hid hx
  have HY := Lib.hid hy
  obtain ⟨res, hres⟩ : ∃ res, res = Sp.kids2 x y := ⟨_, rfl⟩
  rw [← hres]
  have HR := Lib.hid hres
  clear hx hy hres
  go_enter Tryz.func213, Tryz.ntmps213
  go_wp2
  go_loopw [0, 1, 5] (fun v0 v1 v5 wr => ∃ (x' y' : List Sp.Kid) (A' B' : Option Addr) (d d' : Nat) (out : List Sp.Two), v0 = .slice A' x'.length d ∧ v1 = .slice B' y'.length d' ∧ Kids w A' x' ∧ Kids w B' y' ∧ x'.length ≤ d ∧ y'.length ≤ d' ∧ x'.length ≤ 1000 ∧ y'.length ≤ 1000 ∧ wr.ownsRow w.heap.size 263 67 v5 out.length (twosC out) ∧ out.length + x'.length + y'.length ≤ 2000 ∧ out ++ Sp.kids2 x' y' = res ∧ Ext w wr) (fun v0 v1 _ _ => slLen v0 + slLen v1)
  case atStart => exact ⟨x, y, A, B, c, c', [], rfl, rfl, HX.out, HY.out, cx, cy, lx, ly, World.ownsRow_nil _ _ _ _, by simp; omega, HR.out.symm, Ext.refl _⟩
  case round =>
    clear HX HY HR cx cy lx ly
    obtain ⟨x', y', A', B', d, d', out, rfl, rfl, hx, hy, cx, cy, lx, ly, ho, hol, hr, hb⟩ := hrel
    have HO := Lib.hid ho
    have HB := Lib.hid hb
    clear ho hb
    cases x' with
    | nil =>
      cases y' with
      | nil =>
        rw [Sp.kids2, List.append_nil] at hr
        subst hr
        clear hx hy
        go_wp2
        go_ret
        exact ⟨_, rfl, HO.out, HB.out⟩
      | cons m s =>
        rw [Sp.kids2] at hr
        have HR := Lib.hid (show (out ++ [(m.1, false, true, Sp.z32, m.2)]) ++ Sp.kids2 [] s = res by rw [← hr, List.append_assoc]; rfl)
        obtain ⟨h, p, rfl, hc0, hd0⟩ := kids_head hy
        have C0 := Lib.hid (HB.out.cell hc0)
        have D0 := Lib.hid (show w.rangeAt h (p + 1) (m.2.map byteV) from hd0)
        have mk := hy.2 m (List.mem_cons_self ..)
        have KS := Lib.hid fun A2 e => kids_tail hy cy A2 e
        have BP := Lib.hid (built_y m mk.1 mk.2)
        have TWO := Lib.hid (show TwoOk (m.1, false, true, Sp.z32, m.2) from ⟨z32_len, mk.1, mk.2⟩)
        have DL := Lib.hid (show (m.2.map byteV).length = 32 by rw [List.length_map, mk.1])
        have DM := Lib.hid (show (m.2.map byteV).toArray = digC m.2 from rfl)
        have l1 : (m :: s).length = s.length + 1 := rfl
        have HXX := Lib.hid hx
        rw [l1] at cy ly hol ⊢
        have z0 : ((s.length + 1 : Nat) : Int) > 0 := by omega
        have z1 : (((s.length + 1 : Nat) : Int) == 0) = false := by rw [beq_eq_false_iff_ne]; omega
        clear hr hc0 hd0 hx hy l1 mk
        go_wp2_with fail
        refine wp_region_det (fun W => Ext wr W) (by kernel_rfl) (by kernel_rfl) (Below.refl _ _).drew ?_
        repeat (first
          | (refine det_step (fun K hK => ?_)
             apply Exists.intro
             refine ⟨Or.inl ⟨rfl, fun W hS => ?_⟩, ?_⟩
             · replace hS : Ext wr W := hS
               have f0 := hS.cell C0.out
               go_simp
               first
               | exact rfl
               | exact ⟨rfl, hS⟩
               | (fail)
             go_simp
             refine hK _ ?_
             clear hK K)
          | (refine det_step (fun K hK => ?_); refine det_no' rfl ?_; go_simp; refine hK _ ?_; clear hK K))
        refine det_nil ?_
        intro W9 hS
        replace hS : Ext _ W9 := hS
        go_wp2_with fail
        have S1 := Lib.hid hS
        clear hS
        obtain ⟨W1, hW1⟩ : ∃ W1, W1 = W9 := ⟨_, rfl⟩
        rw [← hW1] at S1 ⊢
        clear hW1
        refine wp_region_det (fun W => Ext W1 W) (by kernel_rfl) (by kernel_rfl) (Below.refl _ _).drew ?_
        repeat (first
          | (refine det_step (fun K hK => ?_)
             apply Exists.intro
             refine ⟨Or.inl ⟨rfl, fun W hS => ?_⟩, ?_⟩
             · replace hS : Ext W1 W := hS
               have f0 := (S1.out.trans hS).cell C0.out
               go_simp
               first
               | exact rfl
               | exact ⟨rfl, hS⟩
               | (fail)
             go_simp
             refine hK _ ?_
             clear hK K)
          | (refine det_step (fun K hK => ?_); refine det_no' rfl ?_; go_simp; refine hK _ ?_; clear hK K))
        refine det_nil ?_
        intro W9 hS
        replace hS : Ext _ W9 := hS
        go_wp2_with fail
        have S9 := Lib.hid (S1.out.trans hS)
        have E9 := Lib.hid (HB.out.trans S9.out)
        have O9 := Lib.hid (own_ext HO.out S9.out)
        clear hS
        obtain ⟨ka, hka⟩ : ∃ ka, ka = (twoL (m.1, false, true, Sp.z32, m.2)).toArray := ⟨_, rfl⟩
        have BP2 := Lib.hid (show (Tryz.prog).built 263 [(0, .string (strOf m.1)), (2, .bool true), (4, digV m.2)] = some ka by rw [hka]; exact BP.out)
        have KA := Lib.hid (show ka.size = 67 by rw [hka, List.size_toArray, twoL_len _ TWO.out])
        have KO := Lib.hid (show ∀ u ∈ ka.toList, u.oneCell' = true by rw [hka]; exact twoL_one _)
        have KT := Lib.hid (show twosC (out ++ [(m.1, false, true, Sp.z32, m.2)]) = twosC out ++ ka.toList by rw [hka, twosC_append, twosC, twosC, List.append_nil])
        clear hka
        refine wp_region_seqT (fun W => Ext W9 W) 9 11 (by kernel_rfl) (by kernel_rfl) (Ext.refl W9).drew ?_
        simp only [List.take_succ_cons, List.take_zero, List.drop_succ_cons, List.drop_zero]
        repeat (first
          | (refine floatT_step (fun K hK => ?_); (refine floatT_load_mid rfl 36 (.tmp 90) rfl h (p + 1) rfl (m.2.map byteV) _ (fun W hS j u hj => (E9.out.trans hS).cell (D0.out j u hj)) Tryz.underlying36 rfl (by rw [DL.out]; kernel_rfl) ?_; rw [DM.out]); go_simp; refine hK _ ?_; clear hK K)
          | (refine floatT_step (fun K hK => ?_)
             apply Exists.intro
             refine ⟨Or.inl ⟨rfl, fun W hS => ?_⟩, ?_⟩
             · have hz : Ext W9 W := hS; have f0 := (S9.out.trans hz).cell C0.out
               go_simp
               first | done | exact rfl
             go_simp
             refine hK _ ?_
             clear hK K))
        refine floatT_nil ?_
        refine seqT_succ (n := 1) (fun Q' hQ' => ?_)
        go_wp2_with ((with_reducible refine at_build rfl ?_); refine list_build rfl 263 #[(0, .tmp 87), (2, .const (.bool true)), (4, .tmp 91)] rfl ka (by first | exact BP2.out | (go_simp; exact BP2.out)) ?_)
        refine hQ' _ _ (Ext.refl W9).drew ?_
        clear hQ'
        refine seqT_succ (n := 0) (fun Q' hQ' => ?_)
        go_wp2_with ((with_reducible refine at_bslice rfl ?_); refine bslice_one rfl 260 263 _ rfl appTwo (by decide) ka rfl KA.out ?_)
        refine hQ' _ _ (Below.alloc (Ext.refl W9).drew (Ext.refl W9).drew.size _) ?_
        clear hQ'
        refine seqT_zero ?_
        have tokA : True := trivial
        go_wp2_with (have _t := tokA; at_builtin; refine app_new appTwo rfl _ _ rfl w.heap.size _ out.length _ rfl (own_ext O9.out (Ext.refl W9).drew) ka 263 1 rfl (by rw [KA.out]) KO.out (by decide) (by omega) (Nat.le_trans E9.out.size (Ext.refl W9).drew.size) ?_; intro g6 cap6 w10 hown10 hgr10 hb10 hbg10; have O10 := Lib.hid (show w10.ownsRow w.heap.size 263 67 (.slice (some ⟨g6, 0, none⟩) (out.length + 1) cap6) (out ++ [(m.1, false, true, Sp.z32, m.2)]).length (twosC (out ++ [(m.1, false, true, Sp.z32, m.2)])) from by rw [KT.out, List.length_append]; exact hown10); have B10 := Lib.hid (Below.trans E9.out.drew hb10); clear tokA _t hown10 hgr10 hb10 hbg10)
        refine ⟨rfl, ?_⟩
        go_wp2
        go_roundw
        case rel =>
          exact ⟨[], s, A', (if d' = 1 then some ⟨h, p, none⟩ else some ⟨h, p + 33, none⟩), d, d' - 1, _, rfl, rfl, HXX.out, KS.out _ (fun h => if_neg h), cx, by omega, lx, by omega, O10.out, by rw [List.length_append, List.length_singleton]; simp at hol ⊢; omega, HR.out, B10.out⟩
        case measure => simp [slLen]
    | cons k r =>
      obtain ⟨g, o, rfl, hc0, hd0⟩ := kids_head hx
      have CX := Lib.hid (HB.out.cell hc0)
      have DX := Lib.hid (show w.rangeAt g (o + 1) (k.2.map byteV) from hd0)
      have xk := hx.2 k (List.mem_cons_self ..)
      have KX := Lib.hid fun A2 e => kids_tail hx cx A2 e
      have XL := Lib.hid (show (k.2.map byteV).length = 32 by rw [List.length_map, xk.1])
      have XM := Lib.hid (show (k.2.map byteV).toArray = digC k.2 from rfl)
      have l1 : (k :: r).length = r.length + 1 := rfl
      have HXX := Lib.hid hx
      rw [l1] at cx lx hol ⊢
      have z0 : ((r.length + 1 : Nat) : Int) > 0 := by omega
      have z1 : (((r.length + 1 : Nat) : Int) == 0) = false := by rw [beq_eq_false_iff_ne]; omega
      clear hc0 hd0 hx l1
      cases y' with
      | nil =>
        rw [Sp.kids2] at hr
        have HR := Lib.hid (show (out ++ [(k.1, true, false, k.2, Sp.z32)]) ++ Sp.kids2 r [] = res by rw [← hr, List.append_assoc]; rfl)
        have HYY := Lib.hid hy
        have BP := Lib.hid (built_x k xk.1 xk.2)
        have TWO := Lib.hid (show TwoOk (k.1, true, false, k.2, Sp.z32) from ⟨xk.1, z32_len, xk.2⟩)
        clear hr hy xk
        go_wp2_with fail
        refine wp_region_det (fun W => Ext wr W) (by kernel_rfl) (by kernel_rfl) (Below.refl _ _).drew ?_
        repeat (first
          | (refine det_step (fun K hK => ?_)
             apply Exists.intro
             refine ⟨Or.inl ⟨rfl, fun W hS => ?_⟩, ?_⟩
             · replace hS : Ext wr W := hS
               have f0 := hS.cell CX.out
               go_simp
               first
               | exact rfl
               | exact ⟨rfl, hS⟩
               | (fail)
             go_simp
             refine hK _ ?_
             clear hK K)
          | (refine det_step (fun K hK => ?_); refine det_no' rfl ?_; go_simp; refine hK _ ?_; clear hK K))
        refine det_nil ?_
        intro W9 hS
        replace hS : Ext _ W9 := hS
        go_wp2_with fail
        have S9 := Lib.hid hS
        have E9 := Lib.hid (HB.out.trans hS)
        have O9 := Lib.hid (own_ext HO.out hS)
        clear hS
        obtain ⟨ka, hka⟩ : ∃ ka, ka = (twoL (k.1, true, false, k.2, Sp.z32)).toArray := ⟨_, rfl⟩
        have BP2 := Lib.hid (show (Tryz.prog).built 263 [(0, .string (strOf k.1)), (1, .bool true), (3, digV k.2)] = some ka by rw [hka]; exact BP.out)
        have KA := Lib.hid (show ka.size = 67 by rw [hka, List.size_toArray, twoL_len _ TWO.out])
        have KO := Lib.hid (show ∀ u ∈ ka.toList, u.oneCell' = true by rw [hka]; exact twoL_one _)
        have KT := Lib.hid (show twosC (out ++ [(k.1, true, false, k.2, Sp.z32)]) = twosC out ++ ka.toList by rw [hka, twosC_append, twosC, twosC, List.append_nil])
        clear hka
        refine wp_region_seqT (fun W => Ext W9 W) 9 11 (by kernel_rfl) (by kernel_rfl) (Ext.refl W9).drew ?_
        simp only [List.take_succ_cons, List.take_zero, List.drop_succ_cons, List.drop_zero]
        repeat (first
          | (refine floatT_step (fun K hK => ?_); (refine floatT_load_mid rfl 36 (.tmp 61) rfl g (o + 1) rfl (k.2.map byteV) _ (fun W hS j u hj => (E9.out.trans hS).cell (DX.out j u hj)) Tryz.underlying36 rfl (by rw [XL.out]; kernel_rfl) ?_; rw [XM.out]); go_simp; refine hK _ ?_; clear hK K)
          | (refine floatT_step (fun K hK => ?_)
             apply Exists.intro
             refine ⟨Or.inl ⟨rfl, fun W hS => ?_⟩, ?_⟩
             · have hz : Ext W9 W := hS; have f0 := (S9.out.trans hz).cell CX.out
               go_simp
               first | done | exact rfl
             go_simp
             refine hK _ ?_
             clear hK K))
        refine floatT_nil ?_
        refine seqT_succ (n := 1) (fun Q' hQ' => ?_)
        go_wp2_with ((with_reducible refine at_build rfl ?_); refine list_build rfl 263 #[(0, .tmp 58), (1, .const (.bool true)), (3, .tmp 62)] rfl ka (by first | exact BP2.out | (go_simp; exact BP2.out)) ?_)
        refine hQ' _ _ (Ext.refl W9).drew ?_
        clear hQ'
        refine seqT_succ (n := 0) (fun Q' hQ' => ?_)
        go_wp2_with ((with_reducible refine at_bslice rfl ?_); refine bslice_one rfl 260 263 _ rfl appTwo (by decide) ka rfl KA.out ?_)
        refine hQ' _ _ (Below.alloc (Ext.refl W9).drew (Ext.refl W9).drew.size _) ?_
        clear hQ'
        refine seqT_zero ?_
        have tokA : True := trivial
        go_wp2_with (have _t := tokA; at_builtin; refine app_new appTwo rfl _ _ rfl w.heap.size _ out.length _ rfl (own_ext O9.out (Ext.refl W9).drew) ka 263 1 rfl (by rw [KA.out]) KO.out (by decide) (by omega) (Nat.le_trans E9.out.size (Ext.refl W9).drew.size) ?_; intro g6 cap6 w10 hown10 hgr10 hb10 hbg10; have O10 := Lib.hid (show w10.ownsRow w.heap.size 263 67 (.slice (some ⟨g6, 0, none⟩) (out.length + 1) cap6) (out ++ [(k.1, true, false, k.2, Sp.z32)]).length (twosC (out ++ [(k.1, true, false, k.2, Sp.z32)])) from by rw [KT.out, List.length_append]; exact hown10); have B10 := Lib.hid (Below.trans E9.out.drew hb10); clear tokA _t hown10 hgr10 hb10 hbg10)
        refine ⟨rfl, ?_⟩
        go_wp2
        go_roundw
        case rel =>
          exact ⟨r, [], (if d = 1 then some ⟨g, o, none⟩ else some ⟨g, o + 33, none⟩), B', d - 1, d', _, rfl, rfl, KX.out _ (fun h => if_neg h), HYY.out, by omega, cy, by omega, ly, O10.out, by rw [List.length_append, List.length_singleton]; simp at hol ⊢; omega, HR.out, B10.out⟩
        case measure => simp [slLen]
      | cons m s =>
        obtain ⟨h, p, rfl, hc0, hd0⟩ := kids_head hy
        have CY := Lib.hid (HB.out.cell hc0)
        have DY := Lib.hid (show w.rangeAt h (p + 1) (m.2.map byteV) from hd0)
        have yk := hy.2 m (List.mem_cons_self ..)
        have KY := Lib.hid fun A2 e => kids_tail hy cy A2 e
        have YL := Lib.hid (show (m.2.map byteV).length = 32 by rw [List.length_map, yk.1])
        have YM := Lib.hid (show (m.2.map byteV).toArray = digC m.2 from rfl)
        have l1 : (m :: s).length = s.length + 1 := rfl
        have HYY := Lib.hid hy
        rw [l1] at cy ly hol ⊢
        have z2 : ((s.length + 1 : Nat) : Int) > 0 := by omega
        have z3 : (((s.length + 1 : Nat) : Int) == 0) = false := by rw [beq_eq_false_iff_ne]; omega
        rw [Sp.kids2] at hr
        clear hc0 hd0 hy l1
        cases q1 : Op.bytesLess k.1 m.1 with
        | true =>
          rw [if_pos q1] at hr
          have HR := Lib.hid (show (out ++ [(k.1, true, false, k.2, Sp.z32)]) ++ Sp.kids2 r (m :: s) = res by rw [← hr, List.append_assoc]; rfl)
          have BP := Lib.hid (built_x k xk.1 xk.2)
          have TWO := Lib.hid (show TwoOk (k.1, true, false, k.2, Sp.z32) from ⟨xk.1, z32_len, xk.2⟩)
          clear hr xk yk
          go_wp2_with fail
          refine wp_region_det (fun W => Ext wr W) (by kernel_rfl) (by kernel_rfl) (Below.refl _ _).drew ?_
          repeat (first
            | (refine det_step (fun K hK => ?_)
               apply Exists.intro
               refine ⟨Or.inl ⟨rfl, fun W hS => ?_⟩, ?_⟩
               · replace hS : Ext wr W := hS
                 have f0 := hS.cell CX.out; have f1 := hS.cell CY.out
                 go_simp
                 first
                 | exact rfl
                 | exact ⟨rfl, hS⟩
                 | (fail)
               go_simp
               refine hK _ ?_
               clear hK K)
            | (refine det_step (fun K hK => ?_); refine det_no' rfl ?_; go_simp; refine hK _ ?_; clear hK K))
          refine det_nil ?_
          intro W9 hS
          replace hS : Ext _ W9 := hS
          go_wp2_with fail
          have S9 := Lib.hid hS
          have E9 := Lib.hid (HB.out.trans hS)
          have O9 := Lib.hid (own_ext HO.out hS)
          clear hS
          obtain ⟨ka, hka⟩ : ∃ ka, ka = (twoL (k.1, true, false, k.2, Sp.z32)).toArray := ⟨_, rfl⟩
          have BP2 := Lib.hid (show (Tryz.prog).built 263 [(0, .string (strOf k.1)), (1, .bool true), (3, digV k.2)] = some ka by rw [hka]; exact BP.out)
          have KA := Lib.hid (show ka.size = 67 by rw [hka, List.size_toArray, twoL_len _ TWO.out])
          have KO := Lib.hid (show ∀ u ∈ ka.toList, u.oneCell' = true by rw [hka]; exact twoL_one _)
          have KT := Lib.hid (show twosC (out ++ [(k.1, true, false, k.2, Sp.z32)]) = twosC out ++ ka.toList by rw [hka, twosC_append, twosC, twosC, List.append_nil])
          clear hka
          refine wp_region_seqT (fun W => Ext W9 W) 9 11 (by kernel_rfl) (by kernel_rfl) (Ext.refl W9).drew ?_
          simp only [List.take_succ_cons, List.take_zero, List.drop_succ_cons, List.drop_zero]
          repeat (first
            | (refine floatT_step (fun K hK => ?_); (refine floatT_load_mid rfl 36 (.tmp 61) rfl g (o + 1) rfl (k.2.map byteV) _ (fun W hS j u hj => (E9.out.trans hS).cell (DX.out j u hj)) Tryz.underlying36 rfl (by rw [XL.out]; kernel_rfl) ?_; rw [XM.out]); go_simp; refine hK _ ?_; clear hK K)
            | (refine floatT_step (fun K hK => ?_)
               apply Exists.intro
               refine ⟨Or.inl ⟨rfl, fun W hS => ?_⟩, ?_⟩
               · have hz : Ext W9 W := hS; have f0 := (S9.out.trans hz).cell CX.out
                 go_simp
                 first | done | exact rfl
               go_simp
               refine hK _ ?_
               clear hK K))
          refine floatT_nil ?_
          refine seqT_succ (n := 1) (fun Q' hQ' => ?_)
          go_wp2_with ((with_reducible refine at_build rfl ?_); refine list_build rfl 263 #[(0, .tmp 58), (1, .const (.bool true)), (3, .tmp 62)] rfl ka (by first | exact BP2.out | (go_simp; exact BP2.out)) ?_)
          refine hQ' _ _ (Ext.refl W9).drew ?_
          clear hQ'
          refine seqT_succ (n := 0) (fun Q' hQ' => ?_)
          go_wp2_with ((with_reducible refine at_bslice rfl ?_); refine bslice_one rfl 260 263 _ rfl appTwo (by decide) ka rfl KA.out ?_)
          refine hQ' _ _ (Below.alloc (Ext.refl W9).drew (Ext.refl W9).drew.size _) ?_
          clear hQ'
          refine seqT_zero ?_
          have tokA : True := trivial
          go_wp2_with (have _t := tokA; at_builtin; refine app_new appTwo rfl _ _ rfl w.heap.size _ out.length _ rfl (own_ext O9.out (Ext.refl W9).drew) ka 263 1 rfl (by rw [KA.out]) KO.out (by decide) (by omega) (Nat.le_trans E9.out.size (Ext.refl W9).drew.size) ?_; intro g6 cap6 w10 hown10 hgr10 hb10 hbg10; have O10 := Lib.hid (show w10.ownsRow w.heap.size 263 67 (.slice (some ⟨g6, 0, none⟩) (out.length + 1) cap6) (out ++ [(k.1, true, false, k.2, Sp.z32)]).length (twosC (out ++ [(k.1, true, false, k.2, Sp.z32)])) from by rw [KT.out, List.length_append]; exact hown10); have B10 := Lib.hid (Below.trans E9.out.drew hb10); clear tokA _t hown10 hgr10 hb10 hbg10)
          refine ⟨rfl, ?_⟩
          go_wp2
          go_roundw
          case rel =>
            exact ⟨r, m :: s, (if d = 1 then some ⟨g, o, none⟩ else some ⟨g, o + 33, none⟩), some ⟨h, p, none⟩, d - 1, d', _, rfl, rfl, KX.out _ (fun h => if_neg h), HYY.out, by omega, cy, by omega, ly, O10.out, by rw [List.length_append, List.length_singleton, List.length_cons]; omega, HR.out, B10.out⟩
          case measure => simp [slLen]
        | false =>
          rw [if_neg (by rw [q1]; decide)] at hr
          cases q2 : Op.bytesLess m.1 k.1 with
          | true =>
            rw [if_pos q2] at hr
            have HR := Lib.hid (show (out ++ [(m.1, false, true, Sp.z32, m.2)]) ++ Sp.kids2 (k :: r) s = res by rw [← hr, List.append_assoc]; rfl)
            have BP := Lib.hid (built_y m yk.1 yk.2)
            have TWO := Lib.hid (show TwoOk (m.1, false, true, Sp.z32, m.2) from ⟨z32_len, yk.1, yk.2⟩)
            clear hr xk yk
            go_wp2_with fail
            refine wp_region_det (fun W => Ext wr W) (by kernel_rfl) (by kernel_rfl) (Below.refl _ _).drew ?_
            repeat (first
              | (refine det_step (fun K hK => ?_)
                 apply Exists.intro
                 refine ⟨Or.inl ⟨rfl, fun W hS => ?_⟩, ?_⟩
                 · replace hS : Ext wr W := hS
                   have f0 := hS.cell CX.out; have f1 := hS.cell CY.out
                   go_simp
                   first
                   | exact rfl
                   | exact ⟨rfl, hS⟩
                   | (fail)
                 go_simp
                 refine hK _ ?_
                 clear hK K)
              | (refine det_step (fun K hK => ?_); refine det_no' rfl ?_; go_simp; refine hK _ ?_; clear hK K))
            refine det_nil ?_
            intro W9 hS
            replace hS : Ext _ W9 := hS
            go_wp2_with fail
            have S1 := Lib.hid hS
            clear hS
            obtain ⟨W1, hW1⟩ : ∃ W1, W1 = W9 := ⟨_, rfl⟩
            rw [← hW1] at S1 ⊢
            clear hW1
            refine wp_region_det (fun W => Ext W1 W) (by kernel_rfl) (by kernel_rfl) (Below.refl _ _).drew ?_
            repeat (first
              | (refine det_step (fun K hK => ?_)
                 apply Exists.intro
                 refine ⟨Or.inl ⟨rfl, fun W hS => ?_⟩, ?_⟩
                 · replace hS : Ext W1 W := hS
                   have f0 := (S1.out.trans hS).cell CX.out; have f1 := (S1.out.trans hS).cell CY.out
                   go_simp
                   first
                   | exact rfl
                   | exact ⟨rfl, hS⟩
                   | (fail)
                 go_simp
                 refine hK _ ?_
                 clear hK K)
              | (refine det_step (fun K hK => ?_); refine det_no' rfl ?_; go_simp; refine hK _ ?_; clear hK K))
            refine det_nil ?_
            intro W9 hS
            replace hS : Ext _ W9 := hS
            go_wp2_with fail
            have S9 := Lib.hid (S1.out.trans hS)
            have E9 := Lib.hid (HB.out.trans S9.out)
            have O9 := Lib.hid (own_ext HO.out S9.out)
            clear hS
            obtain ⟨ka, hka⟩ : ∃ ka, ka = (twoL (m.1, false, true, Sp.z32, m.2)).toArray := ⟨_, rfl⟩
            have BP2 := Lib.hid (show (Tryz.prog).built 263 [(0, .string (strOf m.1)), (2, .bool true), (4, digV m.2)] = some ka by rw [hka]; exact BP.out)
            have KA := Lib.hid (show ka.size = 67 by rw [hka, List.size_toArray, twoL_len _ TWO.out])
            have KO := Lib.hid (show ∀ u ∈ ka.toList, u.oneCell' = true by rw [hka]; exact twoL_one _)
            have KT := Lib.hid (show twosC (out ++ [(m.1, false, true, Sp.z32, m.2)]) = twosC out ++ ka.toList by rw [hka, twosC_append, twosC, twosC, List.append_nil])
            clear hka
            refine wp_region_seqT (fun W => Ext W9 W) 9 11 (by kernel_rfl) (by kernel_rfl) (Ext.refl W9).drew ?_
            simp only [List.take_succ_cons, List.take_zero, List.drop_succ_cons, List.drop_zero]
            repeat (first
              | (refine floatT_step (fun K hK => ?_); (refine floatT_load_mid rfl 36 (.tmp 90) rfl h (p + 1) rfl (m.2.map byteV) _ (fun W hS j u hj => (E9.out.trans hS).cell (DY.out j u hj)) Tryz.underlying36 rfl (by rw [YL.out]; kernel_rfl) ?_; rw [YM.out]); go_simp; refine hK _ ?_; clear hK K)
              | (refine floatT_step (fun K hK => ?_)
                 apply Exists.intro
                 refine ⟨Or.inl ⟨rfl, fun W hS => ?_⟩, ?_⟩
                 · have hz : Ext W9 W := hS; have f0 := (S9.out.trans hz).cell CY.out
                   go_simp
                   first | done | exact rfl
                 go_simp
                 refine hK _ ?_
                 clear hK K))
            refine floatT_nil ?_
            refine seqT_succ (n := 1) (fun Q' hQ' => ?_)
            go_wp2_with ((with_reducible refine at_build rfl ?_); refine list_build rfl 263 #[(0, .tmp 87), (2, .const (.bool true)), (4, .tmp 91)] rfl ka (by first | exact BP2.out | (go_simp; exact BP2.out)) ?_)
            refine hQ' _ _ (Ext.refl W9).drew ?_
            clear hQ'
            refine seqT_succ (n := 0) (fun Q' hQ' => ?_)
            go_wp2_with ((with_reducible refine at_bslice rfl ?_); refine bslice_one rfl 260 263 _ rfl appTwo (by decide) ka rfl KA.out ?_)
            refine hQ' _ _ (Below.alloc (Ext.refl W9).drew (Ext.refl W9).drew.size _) ?_
            clear hQ'
            refine seqT_zero ?_
            have tokA : True := trivial
            go_wp2_with (have _t := tokA; at_builtin; refine app_new appTwo rfl _ _ rfl w.heap.size _ out.length _ rfl (own_ext O9.out (Ext.refl W9).drew) ka 263 1 rfl (by rw [KA.out]) KO.out (by decide) (by omega) (Nat.le_trans E9.out.size (Ext.refl W9).drew.size) ?_; intro g6 cap6 w10 hown10 hgr10 hb10 hbg10; have O10 := Lib.hid (show w10.ownsRow w.heap.size 263 67 (.slice (some ⟨g6, 0, none⟩) (out.length + 1) cap6) (out ++ [(m.1, false, true, Sp.z32, m.2)]).length (twosC (out ++ [(m.1, false, true, Sp.z32, m.2)])) from by rw [KT.out, List.length_append]; exact hown10); have B10 := Lib.hid (Below.trans E9.out.drew hb10); clear tokA _t hown10 hgr10 hb10 hbg10)
            refine ⟨rfl, ?_⟩
            go_wp2
            go_roundw
            case rel =>
              exact ⟨k :: r, s, some ⟨g, o, none⟩, (if d' = 1 then some ⟨h, p, none⟩ else some ⟨h, p + 33, none⟩), d, d' - 1, _, rfl, rfl, HXX.out, KY.out _ (fun h => if_neg h), cx, by omega, lx, by omega, O10.out, by rw [List.length_append, List.length_singleton, List.length_cons]; omega, HR.out, B10.out⟩
            case measure => simp [slLen]
          | false =>
            rw [if_neg (by rw [q2]; decide)] at hr
            have HR := Lib.hid (show (out ++ [(k.1, true, true, k.2, m.2)]) ++ Sp.kids2 r s = res by rw [← hr, List.append_assoc]; rfl)
            have BP := Lib.hid (built_xy k.1 k.2 m.2 xk.1 yk.1 xk.2)
            have TWO := Lib.hid (show TwoOk (k.1, true, true, k.2, m.2) from ⟨xk.1, yk.1, xk.2⟩)
            clear hr xk yk
            go_wp2_with fail
            refine wp_region_det (fun W => Ext wr W) (by kernel_rfl) (by kernel_rfl) (Below.refl _ _).drew ?_
            repeat (first
              | (refine det_step (fun K hK => ?_)
                 apply Exists.intro
                 refine ⟨Or.inl ⟨rfl, fun W hS => ?_⟩, ?_⟩
                 · replace hS : Ext wr W := hS
                   have f0 := hS.cell CX.out; have f1 := hS.cell CY.out
                   go_simp
                   first
                   | exact rfl
                   | exact ⟨rfl, hS⟩
                   | (fail)
                 go_simp
                 refine hK _ ?_
                 clear hK K)
              | (refine det_step (fun K hK => ?_); refine det_no' rfl ?_; go_simp; refine hK _ ?_; clear hK K))
            refine det_nil ?_
            intro W9 hS
            replace hS : Ext _ W9 := hS
            go_wp2_with fail
            have S1 := Lib.hid hS
            clear hS
            obtain ⟨W1, hW1⟩ : ∃ W1, W1 = W9 := ⟨_, rfl⟩
            rw [← hW1] at S1 ⊢
            clear hW1
            refine wp_region_det (fun W => Ext W1 W) (by kernel_rfl) (by kernel_rfl) (Below.refl _ _).drew ?_
            repeat (first
              | (refine det_step (fun K hK => ?_)
                 apply Exists.intro
                 refine ⟨Or.inl ⟨rfl, fun W hS => ?_⟩, ?_⟩
                 · replace hS : Ext W1 W := hS
                   have f0 := (S1.out.trans hS).cell CX.out; have f1 := (S1.out.trans hS).cell CY.out
                   go_simp
                   first
                   | exact rfl
                   | exact ⟨rfl, hS⟩
                   | (fail)
                 go_simp
                 refine hK _ ?_
                 clear hK K)
              | (refine det_step (fun K hK => ?_); refine det_no' rfl ?_; go_simp; refine hK _ ?_; clear hK K))
            refine det_nil ?_
            intro W9 hS
            replace hS : Ext _ W9 := hS
            go_wp2_with fail
            have S9 := Lib.hid (S1.out.trans hS)
            have E9 := Lib.hid (HB.out.trans S9.out)
            have O9 := Lib.hid (own_ext HO.out S9.out)
            clear hS
            obtain ⟨ka, hka⟩ : ∃ ka, ka = (twoL (k.1, true, true, k.2, m.2)).toArray := ⟨_, rfl⟩
            have BP2 := Lib.hid (show (Tryz.prog).built 263 [(0, .string (strOf k.1)), (1, .bool true), (2, .bool true), (3, digV k.2), (4, digV m.2)] = some ka by rw [hka]; exact BP.out)
            have KA := Lib.hid (show ka.size = 67 by rw [hka, List.size_toArray, twoL_len _ TWO.out])
            have KO := Lib.hid (show ∀ u ∈ ka.toList, u.oneCell' = true by rw [hka]; exact twoL_one _)
            have KT := Lib.hid (show twosC (out ++ [(k.1, true, true, k.2, m.2)]) = twosC out ++ ka.toList by rw [hka, twosC_append, twosC, twosC, List.append_nil])
            clear hka
            refine wp_region_seqT (fun W => Ext W9 W) 13 15 (by kernel_rfl) (by kernel_rfl) (Ext.refl W9).drew ?_
            simp only [List.take_succ_cons, List.take_zero, List.drop_succ_cons, List.drop_zero]
            repeat (first
              | (refine floatT_step (fun K hK => ?_); (first | (refine floatT_load_mid rfl 36 (.tmp 21) rfl g (o + 1) rfl (k.2.map byteV) _ (fun W hS j u hj => (E9.out.trans hS).cell (DX.out j u hj)) Tryz.underlying36 rfl (by rw [XL.out]; kernel_rfl) ?_; rw [XM.out]) | (refine floatT_load_mid rfl 36 (.tmp 25) rfl h (p + 1) rfl (m.2.map byteV) _ (fun W hS j u hj => (E9.out.trans hS).cell (DY.out j u hj)) Tryz.underlying36 rfl (by rw [YL.out]; kernel_rfl) ?_; rw [YM.out])); go_simp; refine hK _ ?_; clear hK K)
              | (refine floatT_step (fun K hK => ?_)
                 apply Exists.intro
                 refine ⟨Or.inl ⟨rfl, fun W hS => ?_⟩, ?_⟩
                 · have hz : Ext W9 W := hS; have f0 := (S9.out.trans hz).cell CX.out
                   go_simp
                   first | done | exact rfl
                 go_simp
                 refine hK _ ?_
                 clear hK K))
            refine floatT_nil ?_
            refine seqT_succ (n := 1) (fun Q' hQ' => ?_)
            go_wp2_with ((with_reducible refine at_build rfl ?_); refine list_build rfl 263 #[(0, .tmp 18), (1, .const (.bool true)), (2, .const (.bool true)), (3, .tmp 22), (4, .tmp 26)] rfl ka (by first | exact BP2.out | (go_simp; exact BP2.out)) ?_)
            refine hQ' _ _ (Ext.refl W9).drew ?_
            clear hQ'
            refine seqT_succ (n := 0) (fun Q' hQ' => ?_)
            go_wp2_with ((with_reducible refine at_bslice rfl ?_); refine bslice_one rfl 260 263 _ rfl appTwo (by decide) ka rfl KA.out ?_)
            refine hQ' _ _ (Below.alloc (Ext.refl W9).drew (Ext.refl W9).drew.size _) ?_
            clear hQ'
            refine seqT_zero ?_
            have tokA : True := trivial
            go_wp2_with (have _t := tokA; at_builtin; refine app_new appTwo rfl _ _ rfl w.heap.size _ out.length _ rfl (own_ext O9.out (Ext.refl W9).drew) ka 263 1 rfl (by rw [KA.out]) KO.out (by decide) (by omega) (Nat.le_trans E9.out.size (Ext.refl W9).drew.size) ?_; intro g6 cap6 w10 hown10 hgr10 hb10 hbg10; have O10 := Lib.hid (show w10.ownsRow w.heap.size 263 67 (.slice (some ⟨g6, 0, none⟩) (out.length + 1) cap6) (out ++ [(k.1, true, true, k.2, m.2)]).length (twosC (out ++ [(k.1, true, true, k.2, m.2)])) from by rw [KT.out, List.length_append]; exact hown10); have B10 := Lib.hid (Below.trans E9.out.drew hb10); clear tokA _t hown10 hgr10 hb10 hbg10)
            refine ⟨rfl, ?_⟩
            go_wp2_with fail
            have b1 : (1 : Int) ≤ (r.length : Int) + 1 := by omega
            have b2 : (1 : Int) ≤ (s.length : Int) + 1 := by omega
            refine wp_region_det (fun W => Ext w10 W) (by kernel_rfl) (by kernel_rfl) (Below.refl _ _).drew ?_
            repeat (first
              | (refine det_step (fun K hK => ?_)
                 apply Exists.intro
                 refine ⟨Or.inl ⟨rfl, fun W hS => ?_⟩, ?_⟩
                 · replace hS : Ext w10 W := hS
                   skip
                   go_simp
                   first
                   | exact rfl
                   | exact ⟨rfl, hS⟩
                   | (fail)
                 go_simp
                 refine hK _ ?_
                 clear hK K)
              | (refine det_step (fun K hK => ?_); refine det_no' rfl ?_; go_simp; refine hK _ ?_; clear hK K))
            refine det_nil ?_
            intro W9 hS
            replace hS : Ext _ W9 := hS
            go_wp2
            go_roundw
            case rel =>
              exact ⟨r, s, (if d = 1 then some ⟨g, o, none⟩ else some ⟨g, o + 33, none⟩), (if d' = 1 then some ⟨h, p, none⟩ else some ⟨h, p + 33, none⟩), d - 1, d' - 1, _, rfl, rfl, KX.out _ (fun h => if_neg h), KY.out _ (fun h => if_neg h), by omega, by omega, by omega, by omega, own_ext O10.out hS, by rw [List.length_append, List.length_singleton]; omega, HR.out, Ext.trans B10.out hS⟩
            case measure => simp [slLen]; omega
end Go.Proofs.YtmlfnidckfeebaaGreatDoor
