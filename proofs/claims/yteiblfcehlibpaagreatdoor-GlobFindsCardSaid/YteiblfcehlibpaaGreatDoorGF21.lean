/- Walks: slices.Clone. Walks: a node without what is deleted; an empty one; two nodes. -/
import Derived.Test.YteiblfcehlibpaaGreatDoorGF20
import Derived.WalkLawsBesides
import Derived.Deep.RegionLaw
namespace Go.Proofs.YteiblfcehlibpaaGreatDoor
open Go.RowKit Go.Shelf
attribute [local go_sem] yUpon
theorem own_emptyN {k : Nat} (w : World) (B : Nat) (t : TypeId) (h : B ≤ w.heap.size) : (w.alloc (.cells #[] t)).ownsRow B t k (.slice (some ⟨w.heap.size, 0, none⟩) 0 0) 0 [] :=
  World.ownsRow_lit w #[] 0 h (by unfold maxLen; omega) (by simp)
theorem appKid : AppStat Tryz.prog 78 170 33 48 := by
  refine ⟨Tryz.underlying78, by decide, by decide, ?_⟩
  obtain ⟨i0, hi, hz0, hz1, hz2⟩ := info_parts (show (Tryz.prog.info? 170).map (fun i => (i.zero, i.size, i.bytes)) = some (some (.agg kid0), 33, 48) by kernel_rfl)
  exact ⟨i0, _, hi, hz0, hz1, hz2, by kernel_rfl⟩
theorem appDot : AppStat Tryz.prog 73 72 2 16 := by
  refine ⟨Tryz.underlying73, by decide, by decide, ?_⟩
  obtain ⟨i0, hi, hz0, hz1, hz2⟩ := info_parts (show (Tryz.prog.info? 72).map (fun i => (i.zero, i.size, i.bytes)) = some (some (.agg #[.int .i64 0, .int .i64 0]), 2, 16) by kernel_rfl)
  exact ⟨i0, _, hi, hz0, hz1, hz2, rfl⟩
theorem appStr : AppStat Tryz.prog 32 9 1 16 := by
  refine ⟨Tryz.underlying32, by decide, by decide, ?_⟩
  obtain ⟨i0, hi, hz0, hz1, hz2⟩ := info_parts (show (Tryz.prog.info? 9).map (fun i => (i.zero, i.size, i.bytes)) = some (some (.string ⟨#[]⟩), 1, 16) by kernel_rfl)
  exact ⟨i0, _, hi, hz0, hz1, hz2, rfl⟩
theorem appPtr : AppStat Tryz.prog 124 86 1 8 := by
  refine ⟨Tryz.underlying124, by decide, by decide, ?_⟩
  obtain ⟨i0, hi, hz0, hz1, hz2⟩ := info_parts (show (Tryz.prog.info? 86).map (fun i => (i.zero, i.size, i.bytes)) = some (some (.pointer none), 1, 8) by kernel_rfl)
  exact ⟨i0, _, hi, hz0, hz1, hz2, rfl⟩
set_option maxRecDepth 100000 in
set_option maxHeartbeats 2000000 in
theorem cloneKid (cs : List Value) (n cap : Nat) (A : Option Addr) (w : World) (h : Cells w A cs) (hl : cs.length = n * 33) (h1 : ∀ u ∈ cs, u.oneCell' = true) (hn : n ≤ 10000000000) :
    Calls Tryz.prog 204 #[.slice A n cap] w fun e w' => ∃ v, e = .returned v ∧ w'.ownsRow w.heap.size 170 33 v n cs ∧ Ext w w' := by
  have EQ := fun (w : World) (a : Option Addr) (n c : Nat) => Lib.run_eql_slice_nil (P := Tryz.prog) w 78 170 a n c 0 0 Tryz.underlying78
  cases A with
  | none =>
    have hc : cs = [] := Classical.byContradiction fun hc => by obtain ⟨g, o, hA, _⟩ := h hc; cases hA
    subst hc
    have hn0 : n = 0 := by simp at hl; omega
    subst hn0
    go_enter Tryz.func204, Tryz.ntmps204
    go_wp2
    go_ret
    exact ⟨_, rfl, World.ownsRow_nil _ _ _ _, Ext.refl _⟩
  | some a =>
    have HH := Lib.hid h
    clear h
    have tok4 : True := trivial
    go_enter Tryz.func204, Tryz.ntmps204
    go_wp2_with (have _t4 := tok4; at_builtin; refine app_cells appKid rfl _ _ rfl w.heap.size _ 0 [] rfl (own_emptyN _ _ _ (Nat.le_refl _)) (some a) n cap cs rfl (by omega) (HH.out.ext (Ext.alloc _ _)) h1 (by omega) (by simp) ?_; intro v4 w4 hown4 hgr4 hb4; rw [Nat.zero_add, List.nil_append] at hown4; have HO := Lib.hid hown4; have HB := Lib.hid hb4; clear hown4 hgr4 hb4 tok4 _t4)
    go_ret
    exact ⟨_, rfl, HO.out, HB.out.from (Ext.alloc _ _)⟩
set_option maxRecDepth 100000 in
set_option maxHeartbeats 2000000 in
theorem cloneVer (cs : List Value) (n cap : Nat) (A : Option Addr) (w : World) (h : Cells w A cs) (hl : cs.length = n * 5) (h1 : ∀ u ∈ cs, u.oneCell' = true) (hn : n ≤ 10000000000) :
    Calls Tryz.prog 97 #[.slice A n cap] w fun e w' => ∃ v, e = .returned v ∧ w'.ownsRow w.heap.size 75 5 v n cs ∧ Ext w w' := by
  have EQ := fun (w : World) (a : Option Addr) (n c : Nat) => Lib.run_eql_slice_nil (P := Tryz.prog) w 49 75 a n c 0 0 Tryz.underlying49
  cases A with
  | none =>
    have hc : cs = [] := Classical.byContradiction fun hc => by obtain ⟨g, o, hA, _⟩ := h hc; cases hA
    subst hc
    have hn0 : n = 0 := by simp at hl; omega
    subst hn0
    go_enter Tryz.func97, Tryz.ntmps97
    go_wp2
    go_ret
    exact ⟨_, rfl, World.ownsRow_nil _ _ _ _, Ext.refl _⟩
  | some a =>
    have HH := Lib.hid h
    clear h
    have tok4 : True := trivial
    go_enter Tryz.func97, Tryz.ntmps97
    go_wp2_with (have _t4 := tok4; at_builtin; refine app_cells appVer rfl _ _ rfl w.heap.size _ 0 [] rfl (own_emptyN _ _ _ (Nat.le_refl _)) (some a) n cap cs rfl (by omega) (HH.out.ext (Ext.alloc _ _)) h1 (by omega) (by simp) ?_; intro v4 w4 hown4 hgr4 hb4; rw [Nat.zero_add, List.nil_append] at hown4; have HO := Lib.hid hown4; have HB := Lib.hid hb4; clear hown4 hgr4 hb4 tok4 _t4)
    go_ret
    exact ⟨_, rfl, HO.out, HB.out.from (Ext.alloc _ _)⟩
set_option maxRecDepth 100000 in
set_option maxHeartbeats 2000000 in
theorem cloneDot (cs : List Value) (n cap : Nat) (A : Option Addr) (w : World) (h : Cells w A cs) (hl : cs.length = n * 2) (h1 : ∀ u ∈ cs, u.oneCell' = true) (hn : n ≤ 10000000000) :
    Calls Tryz.prog 98 #[.slice A n cap] w fun e w' => ∃ v, e = .returned v ∧ w'.ownsRow w.heap.size 72 2 v n cs ∧ Ext w w' := by
  have EQ := fun (w : World) (a : Option Addr) (n c : Nat) => Lib.run_eql_slice_nil (P := Tryz.prog) w 73 72 a n c 0 0 Tryz.underlying73
  cases A with
  | none =>
    have hc : cs = [] := Classical.byContradiction fun hc => by obtain ⟨g, o, hA, _⟩ := h hc; cases hA
    subst hc
    have hn0 : n = 0 := by simp at hl; omega
    subst hn0
    go_enter Tryz.func98, Tryz.ntmps98
    go_wp2
    go_ret
    exact ⟨_, rfl, World.ownsRow_nil _ _ _ _, Ext.refl _⟩
  | some a =>
    have HH := Lib.hid h
    clear h
    have tok4 : True := trivial
    go_enter Tryz.func98, Tryz.ntmps98
    go_wp2_with (have _t4 := tok4; at_builtin; refine app_cells appDot rfl _ _ rfl w.heap.size _ 0 [] rfl (own_emptyN _ _ _ (Nat.le_refl _)) (some a) n cap cs rfl (by omega) (HH.out.ext (Ext.alloc _ _)) h1 (by omega) (by simp) ?_; intro v4 w4 hown4 hgr4 hb4; rw [Nat.zero_add, List.nil_append] at hown4; have HO := Lib.hid hown4; have HB := Lib.hid hb4; clear hown4 hgr4 hb4 tok4 _t4)
    go_ret
    exact ⟨_, rfl, HO.out, HB.out.from (Ext.alloc _ _)⟩
set_option maxRecDepth 100000 in
set_option maxHeartbeats 2000000 in
theorem cloneStr (cs : List Value) (n cap : Nat) (A : Option Addr) (w : World) (h : Cells w A cs) (hl : cs.length = n * 1) (h1 : ∀ u ∈ cs, u.oneCell' = true) (hn : n ≤ 10000000000) :
    Calls Tryz.prog 133 #[.slice A n cap] w fun e w' => ∃ v, e = .returned v ∧ w'.ownsRow w.heap.size 9 1 v n cs ∧ Ext w w' := by
  have EQ := fun (w : World) (a : Option Addr) (n c : Nat) => Lib.run_eql_slice_nil (P := Tryz.prog) w 32 9 a n c 0 0 Tryz.underlying32
  cases A with
  | none =>
    have hc : cs = [] := Classical.byContradiction fun hc => by obtain ⟨g, o, hA, _⟩ := h hc; cases hA
    subst hc
    have hn0 : n = 0 := by simp at hl; omega
    subst hn0
    go_enter Tryz.func133, Tryz.ntmps133
    go_wp2
    go_ret
    exact ⟨_, rfl, World.ownsRow_nil _ _ _ _, Ext.refl _⟩
  | some a =>
    have HH := Lib.hid h
    clear h
    have tok4 : True := trivial
    go_enter Tryz.func133, Tryz.ntmps133
    go_wp2_with (have _t4 := tok4; at_builtin; refine app_cells appStr rfl _ _ rfl w.heap.size _ 0 [] rfl (own_emptyN _ _ _ (Nat.le_refl _)) (some a) n cap cs rfl (by omega) (HH.out.ext (Ext.alloc _ _)) h1 (by omega) (by simp) ?_; intro v4 w4 hown4 hgr4 hb4; rw [Nat.zero_add, List.nil_append] at hown4; have HO := Lib.hid hown4; have HB := Lib.hid hb4; clear hown4 hgr4 hb4 tok4 _t4)
    go_ret
    exact ⟨_, rfl, HO.out, HB.out.from (Ext.alloc _ _)⟩
set_option maxRecDepth 100000 in
set_option maxHeartbeats 2000000 in
theorem clonePtr (cs : List Value) (n cap : Nat) (A : Option Addr) (w : World) (h : Cells w A cs) (hl : cs.length = n * 1) (h1 : ∀ u ∈ cs, u.oneCell' = true) (hn : n ≤ 10000000000) :
    Calls Tryz.prog 134 #[.slice A n cap] w fun e w' => ∃ v, e = .returned v ∧ w'.ownsRow w.heap.size 86 1 v n cs ∧ Ext w w' := by
  have EQ := fun (w : World) (a : Option Addr) (n c : Nat) => Lib.run_eql_slice_nil (P := Tryz.prog) w 124 86 a n c 0 0 Tryz.underlying124
  cases A with
  | none =>
    have hc : cs = [] := Classical.byContradiction fun hc => by obtain ⟨g, o, hA, _⟩ := h hc; cases hA
    subst hc
    have hn0 : n = 0 := by simp at hl; omega
    subst hn0
    go_enter Tryz.func134, Tryz.ntmps134
    go_wp2
    go_ret
    exact ⟨_, rfl, World.ownsRow_nil _ _ _ _, Ext.refl _⟩
  | some a =>
    have HH := Lib.hid h
    clear h
    have tok4 : True := trivial
    go_enter Tryz.func134, Tryz.ntmps134
    go_wp2_with (have _t4 := tok4; at_builtin; refine app_cells appPtr rfl _ _ rfl w.heap.size _ 0 [] rfl (own_emptyN _ _ _ (Nat.le_refl _)) (some a) n cap cs rfl (by omega) (HH.out.ext (Ext.alloc _ _)) h1 (by omega) (by simp) ?_; intro v4 w4 hown4 hgr4 hb4; rw [Nat.zero_add, List.nil_append] at hown4; have HO := Lib.hid hown4; have HB := Lib.hid hb4; clear hown4 hgr4 hb4 tok4 _t4)
    go_ret
    exact ⟨_, rfl, HO.out, HB.out.from (Ext.alloc _ _)⟩
end Go.Proofs.YteiblfcehlibpaaGreatDoor
namespace Go.Proofs.YteiblfcehlibpaaGreatDoor
open Go.RowKit Go.Shelf
attribute [local go_sem] yUpon
/-- A call of a Go function, as one step of a region that draws. -/
theorem step_call {P : Program} {ops : Array Oper} {o : Oper} {a : Act} {w w0 : World} {K : Act → World → Prop} {Q : Exit → Act → World → Prop} {E : Prop} {R : Ending → World → Prop} (hg : o.guard = none) (f : FuncId) (args : Array Value)
    (hrun : (execOp a.eval o).run P w = .ok (.enter f args) w0) (hC : Calls P f args w0 R) (hK : ∀ e w', R e w' → ∃ v, e = .returned v ∧ K (a.put o.dst v) w') :
    if Region.wanted o (yielded ops a.tmps) = true then Oper.wp P o a w K Q else E := by
  have hw : Region.wanted o (yielded ops a.tmps) = true := by simp [Region.wanted, hg]
  rw [if_pos hw]
  unfold Oper.wp
  rw [hrun]
  exact hC.mono (fun e w' h => by obtain ⟨v, rfl, hk⟩ := hK e w' h; exact hk)
def isSl : Value → Bool
  | .slice _ _ _ => true
  | _ => false
theorem Cells.apart {w w' : World} {g : Nat} {t : TypeId} {zs : Array Value} {A : Option Addr} {cs : List Value} (h : Cells w A cs) (e : Only g w w') (hx : isBlk w g t zs) (hs : ∀ z ∈ zs.toList, isSl z = true) (h0 : ∀ u, cs[0]? = some u → isSl u = false) : Cells w' A cs := fun hn => by
  obtain ⟨g1, o, hA, hc⟩ := h hn
  refine Cells.only (w := w) (g := g) (fun _ => ⟨g1, o, hA, hc⟩) (fun a ha => ?_) e hn
  rw [hA] at ha
  cases ha
  show g1 ≠ g
  rintro rfl
  obtain ⟨u, r, rfl⟩ := List.exists_cons_of_ne_nil hn
  have h1 := hc 0 u rfl
  rw [hx.cell (o + 0)] at h1
  have h2 := hs u (by rw [← Array.getElem?_toList] at h1; exact List.mem_of_getElem? h1)
  rw [h0 u rfl] at h2
  cases h2
theorem Vers.apart {w w' : World} {g : Nat} {t : TypeId} {zs : Array Value} {A : Option Addr} {l : List Sp.Ver} (h : Vers w A l) (e : Only g w w') (hx : isBlk w g t zs) (hs : ∀ z ∈ zs.toList, isSl z = true) : Vers w' A l := by
  obtain ⟨m, h1, h2, h3⟩ := h
  refine ⟨m, h1, Cells.apart h2 e hx hs ?_, fun x hm => ⟨Cells.apart (h3 x hm).1 e hx hs ?_, (h3 x hm).2⟩⟩
  · intro u hu
    cases m with
    | nil => cases hu
    | cons x r => cases hu; rfl
  · intro u hu
    cases hp : x.2.2.past with
    | nil => rw [hp] at hu; cases hu
    | cons d r => rw [hp] at hu; cases hu; rfl
theorem Kids.apart {w w' : World} {g : Nat} {t : TypeId} {zs : Array Value} {A : Option Addr} {l : List Sp.Kid} (h : Kids w A l) (e : Only g w w') (hx : isBlk w g t zs) (hs : ∀ z ∈ zs.toList, isSl z = true) : Kids w' A l := by
  refine ⟨Cells.apart h.1 e hx hs ?_, h.2⟩
  intro u hu
  cases l with
  | nil => cases hu
  | cons x r => cases hu; rfl
theorem kids_one : ∀ (l : List Sp.Kid), ∀ u ∈ kidsC l, u.oneCell' = true
  | [], u, h => by cases h
  | k :: r, u, h => by
    rcases List.mem_append.1 h with h | h
    · unfold kidL at h
      rcases List.mem_cons.1 h with rfl | h
      · rfl
      · exact bytes_one _ u h
    · exact kids_one r u h
set_option maxRecDepth 100000 in
set_option maxHeartbeats 4000000 in
theorem nempty_calls (n : Sp.Node) (A B : Option Addr) (cap cap' : Nat) (w : World) :
    Calls Tryz.prog 168 #[nodeV A n.1.length cap B n.2.length cap'] w fun e w' => e = .returned (.bool (decide (n.1 = [] ∧ n.2 = []))) ∧ Ext w w' := by
  go_enter Tryz.func168, Tryz.ntmps168
  by_cases h1 : n.1 = []
  · by_cases h2 : n.2 = []
    · go_wp2
      go_ret
      exact ⟨ret_bool (by simp [h1, h2]), Ext.alloc _ _⟩
    · go_wp2
      go_ret
      exact ⟨ret_bool (by simp [h1, h2]), Ext.alloc _ _⟩
  · have e1 : ((n.1.length : Int) == 0) = false := by rw [beq_eq_false_iff_ne]; intro h; exact h1 (List.eq_nil_of_length_eq_zero (by omega))
    go_wp2
    go_ret
    exact ⟨ret_bool (by simp [h1]), Ext.alloc _ _⟩
set_option maxRecDepth 100000 in
set_option maxHeartbeats 4000000 in
theorem nseen_calls (n : Sp.Node) (A B : Option Addr) (cap cap' : Nat) (w : World) (hV : Vers w A n.1) (hK : Kids w B n.2) (hl : n.1.length ≤ 1000000) (hk : n.2.length ≤ 10000000) :
    Calls Tryz.prog 167 #[nodeV A n.1.length cap B n.2.length cap'] w fun e w' => ∃ A2 c2 B2 c3, e = .returned (nodeV A2 (Sp.live n.1).length c2 B2 n.2.length c3) ∧ Vers w' A2 (Sp.live n.1) ∧ Kids w' B2 n.2 ∧ Ext w w' := by
  obtain ⟨W0, hW0⟩ : ∃ W0, W0 = w.alloc (.cells (nodeA A n.1.length cap B n.2.length cap') 80) := ⟨_, rfl⟩
  have E0 := Lib.hid (show Ext w W0 by rw [hW0]; exact Ext.alloc _ _)
  have X0 := Lib.hid (show isBlk W0 w.heap.size 80 (nodeA A n.1.length cap B n.2.length cap') by rw [hW0]; exact box_at _ _ _)
  have HW := Lib.hid (show w.alloc (.cells #[.slice A n.1.length cap, .slice B n.2.length cap'] 80) = W0 from hW0.symm)
  have SZ := Lib.hid (show W0.heap.size = w.heap.size + 1 by rw [hW0]; simp)
  have LV := Lib.hid fun W (h : Ext W0 W) => live_calls n.1 A cap W (hV.ext (E0.out.trans h)) hl
  have CL := Lib.hid fun W (h : Ext W0 W) => cloneKid (kidsC n.2) n.2.length cap' B W (hK.ext (E0.out.trans h)).1 (kidsC_len n.2 hK.2) (kids_one n.2) (by omega)
  have tok2 : True := trivial
  clear hW0
  go_enter Tryz.func167, Tryz.ntmps167
  go_wp2_with (have _t2 := tok2; ((with_reducible refine at_alloc (t := 80) rfl ?_); refine box_new rfl (cs := #[.slice none 0 0, .slice none 0 0]) (t := 80) (by first | (go_simp; done) | (go_simp; rfl)) ?_; intro g2 w2 hg2 hx2 hb2; rw [HW.out] at hb2 hg2; have H2 := Lib.hid hx2; have B2 := Lib.hid hb2; have GG2 := Lib.hid hg2; clear tok2 _t2 hx2 hb2 hg2))
  have f0 := ((X0.out.below B2.out).cell 0).trans rfl
  have f1 := ((X0.out.below B2.out).cell 1).trans rfl
  have tokL : True := trivial
  go_region_law (first
    | (have _tL := tokL; refine step_call rfl 93 #[.slice A n.1.length cap] (by go_simp) (LV.out _ (show Ext W0 w2 from B2.out).drew) ?_; rintro e w3 ⟨v3, rfl, hO3, hb3⟩; obtain ⟨A2, c2, rfl, hV2⟩ := hO3.read; have B3 := Lib.hid (show Ext w2 w3 from (show Ext w2 w2.drew from (Below.refl _ _).drew).trans hb3); have D3 := Lib.hid hV2; have f1 := ((X0.out.below (Ext.trans B2.out B3.out)).cell 1).trans rfl; clear hO3 hb3 hV2 tokL _tL; refine ⟨_, rfl, ?_⟩)
    | (refine step_call rfl 204 #[.slice B n.2.length cap'] (by go_simp) (CL.out w3 (Ext.trans B2.out B3.out)) ?_; rintro e w4 ⟨v4, rfl, hO4, hb4⟩; obtain ⟨g4, c4, hv4, hK4⟩ := own_read hO4; subst hv4; have B4 := Lib.hid (B3.out.trans hb4); have D4 := Lib.hid (show Kids w4 g4 n.2 from ⟨hK4, hK.2⟩); have V4 := Lib.hid (D3.out.ext hb4); have z := H2.out.below B4.out; have k0 := (z.cell 0).trans rfl; have k1 := (z.cell 1).trans rfl; have k2 := z.frozen 0; have k3 := z.frozen 1; have H4 := Lib.hid z; clear hO4 hb4 hK4 z; refine ⟨_, rfl, ?_⟩))
  all_goals (
    go_wp2
    have hz := (H4.out.put 0 (.slice A2 (Sp.live n.1).length c2) rfl).put 1 (.slice g4 n.2.length c4) rfl
    refine bodyPost_ret (results_cell_row rfl _ _ g2 80 #[.slice A2 (Sp.live n.1).length c2, .slice g4 n.2.length c4] (0, 0) _ rfl hz Tryz.underlying80 rfl (by kernel_rfl)) rfl ?_
    have e1 := (Only.set g2 0 (.slice A2 (Sp.live n.1).length c2) w4).trans (Only.set g2 1 (.slice g4 n.2.length c4) _)
    have hs : ∀ z ∈ (#[.slice none 0 0, .slice none 0 0] : Array Value).toList, isSl z = true := by decide
    have BW := E0.out.trans (Ext.trans B2.out B4.out)
    exact ⟨A2, c2, g4, c4, rfl, V4.out.apart e1 H4.out hs, D4.out.apart e1 H4.out hs, BW.from' (e1.below (by have := GG2.out; have := SZ.out; omega) BW.size)⟩)
end Go.Proofs.YteiblfcehlibpaaGreatDoor
