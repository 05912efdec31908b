/- Walks: nodes' digests. Walks: slices.Clone. Walks: a node without what is deleted; an empty one; two nodes. -/
import Derived.Test.YtmlkachfahabnaaGreatDoorTA22
import Derived.WalkLawsBesides
import Derived.Deep.RegionLaw
namespace Go.Proofs.YtmlkachfahabnaaGreatDoor
open Go.RowKit Go.Shelf
attribute [local go_sem] yUpon strOf_toList
theorem Sp.nbytes_len (n : Sp.Node) (h : KidsOk n.2) (hc : (Sp.nbytes n).2 = 0) : (Sp.nbytes n).1.length ≤ 4000000000 := by
  unfold Sp.nbytes at *
  by_cases h0 : Sp.ncheck n = 0
  · rw [if_neg (by simpa using h0)] at *
    obtain ⟨_, h2, _⟩ := Sp.ncheck_ok h0
    have h1 := Sp.wleaf_len n.1 ([], 0)
    have h3 := Sp.wnum_len (n.2.length : Int) (Sp.wleaf n.1 ([], 0))
    have h4 := Sp.wkids_len 1000000 32 n.2 (Sp.wnum n.2.length (Sp.wleaf n.1 ([], 0))) (fun k hk => by have := h k hk; omega)
    have h5 : n.2.length * (1000000 + 32 + 20) ≤ 128 * (1000000 + 32 + 20) := Nat.mul_le_mul_right _ h2
    have h6 : (Sp.wdone (Sp.wnode n)).1.length ≤ (Sp.wnode n).1.length := by unfold Sp.wdone; split <;> simp
    unfold Sp.wnode at *
    simp at h1
    omega
  · rw [if_pos (by simpa using h0)]; simp
set_option maxRecDepth 100000 in
set_option maxHeartbeats 4000000 in
theorem nsum_calls (n : Sp.Node) (A B : Option Addr) (cap cap' : Nat) (w : World) (hV : Vers w A n.1) (hK : Kids w B n.2)  (K : KeysAt w 2) :
    Calls Tryz.prog 77 #[nodeV A n.1.length cap B n.2.length cap'] w fun e w' => e = .returned (digV (Sp.nsum n)) ∧ Ext w w' := by
  have hsl := Sp.nsum_len n
  have hds := digC_size (Sp.nsum n)
  obtain ⟨arr, ha⟩ : ∃ arr, arr = digC (Sp.nsum n) := ⟨_, rfl⟩
  have HA := Lib.hid ha
  rw [← ha] at hds
  have w1 : arr.all (·.oneCell') = true := by rw [ha]; exact all_oneCell_toArray (bytes_one _)
  clear ha
  rw [show digV (Sp.nsum n) = .agg (digC (Sp.nsum n)) from rfl, ← HA.out]
  have tok2 : True := trivial
  obtain ⟨W0, hW0⟩ : ∃ W0, W0 = w.alloc (.cells (nodeA A n.1.length cap B n.2.length cap') 51) := ⟨_, rfl⟩
  have E0 := Lib.hid (show Ext w W0 by rw [hW0]; exact Ext.alloc _ _)
  have X0 := Lib.hid (show isBlk W0 w.heap.size 51 (nodeA A n.1.length cap B n.2.length cap') by rw [hW0]; exact box_at _ _ _)
  have HW := Lib.hid (show w.alloc (.cells #[.slice A n.1.length cap, .slice B n.2.length cap'] 51) = W0 from hW0.symm)
  have SZ := Lib.hid (show W0.heap.size = w.heap.size + 1 by rw [hW0]; simp)
  have CB := Lib.hid fun W (h : Ext W0 W) => nbytes_calls n A B cap cap' W (hV.ext (E0.out.trans h)) (hK.ext (E0.out.trans h)) 
  clear hW0
  go_enter Tryz.func77, Tryz.ntmps77
  go_wp2_with (have _t2 := tok2; ((with_reducible refine at_alloc (t := 33) rfl ?_); refine box_new rfl (cs := zero32) (t := 33) (by first | (go_simp; done) | (go_simp; rfl)) ?_; intro g2 w2 hg2 hx2 hb2; rw [HW.out] at hb2 hg2; have f0 := ((X0.out.below hb2).cell 0).trans rfl; have f1 := ((X0.out.below hb2).cell 1).trans rfl; have H2 := Lib.hid hx2; have B2 := Lib.hid hb2; have GG2 := Lib.hid hg2; clear tok2 _t2 hx2 hb2 hg2))
  refine (CB.out _ B2.out).mono ?_
  rintro e w3 ⟨rfl, hb3⟩
  have H3 := Lib.hid (H2.out.below hb3)
  have E3 := Lib.hid (E0.out.trans (Ext.trans B2.out hb3))
  clear hb3 f0 f1
  by_cases hc : (Sp.nbytes n).2 = 0
  · rw [hc]
    have F := Lib.hid (show Sp.sha (Sp.nbytes n).1 = Sp.nsum n from (if_neg (by simpa using hc)).symm)
    have hlen : (Sp.nbytes n).1.length ≤ 4000000000 := Sp.nbytes_len n hK.2 hc
    have SO := Lib.hid (sha_calls (Sp.nbytes n).1 w3 hlen (K.ext E3.out))
    rw [F.out, show digV (Sp.nsum n) = .agg (digC (Sp.nsum n)) from rfl, ← HA.out] at SO
    go_wp2_with fail
    refine SO.out.mono ?_
    rintro e w4 ⟨rfl, hb4⟩
    have H4 := Lib.hid (H3.out.below hb4)
    have E4 := Lib.hid (E3.out.trans hb4)
    clear hb4
    go_wp2_with ((with_reducible refine at_store (t := 33) rfl ?_); refine wpList_store_row rfl _ _ _ rfl g2 arr rfl rfl 33 _ H4.out (by rw [hds, hsl]; kernel_rfl) (by rw [hds, hsl]; rfl) w1 ?_)
    refine bodyPost_ret (results_cell_row rfl _ _ g2 33 arr (0, 0) _ rfl (setRow_heap _ _ _ _ _ _ H4.out) Tryz.underlying33 rfl (by rw [hds, hsl]; kernel_rfl)) rfl ?_
    exact ⟨rfl, below_setRow E4.out (by have := GG2.out; have := SZ.out; omega) _⟩
  · have F := Lib.hid (show arr = zero32 by rw [HA.out, show Sp.nsum n = List.replicate 32 0 from if_pos (by simpa using hc)])
    go_wp2_with ((with_reducible refine at_store (t := 33) rfl ?_); refine wpList_store_row rfl _ _ _ rfl g2 zero32 rfl rfl 33 _ H3.out (by kernel_rfl) (by kernel_rfl) (by kernel_rfl) ?_)
    refine bodyPost_ret (results_cell_row rfl _ _ g2 33 zero32 (0, 0) _ rfl (setRow_heap _ _ _ _ _ _ H3.out) Tryz.underlying33 rfl (by kernel_rfl)) rfl ?_
    exact ⟨by rw [F.out], below_setRow E3.out (by have := GG2.out; have := SZ.out; omega) _⟩
set_option maxRecDepth 100000 in
set_option maxHeartbeats 4000000 in
theorem rnsum_calls (n : Sp.Node) (A B : Option Addr) (cap cap' : Nat) (w : World) (hV : Vers w A n.1) (hK : Kids w B n.2) (hl : n.1.length ≤ 1000) (hd : ∀ v ∈ n.1, v.data.length ≤ 100000 ∧ v.past.length ≤ 100000) (hk : n.2.length ≤ 1000) (K : KeysAt w 0) :
    Calls Tryz.prog 58 #[nodeV A n.1.length cap B n.2.length cap'] w fun e w' => e = .returned (digV (Sp.nsum n)) ∧ Ext w w' := by
  have hsl := Sp.nsum_len n
  have hds := digC_size (Sp.nsum n)
  obtain ⟨arr, ha⟩ : ∃ arr, arr = digC (Sp.nsum n) := ⟨_, rfl⟩
  have HA := Lib.hid ha
  rw [← ha] at hds
  have w1 : arr.all (·.oneCell') = true := by rw [ha]; exact all_oneCell_toArray (bytes_one _)
  clear ha
  rw [show digV (Sp.nsum n) = .agg (digC (Sp.nsum n)) from rfl, ← HA.out]
  have tok2 : True := trivial
  obtain ⟨W0, hW0⟩ : ∃ W0, W0 = w.alloc (.cells (nodeA A n.1.length cap B n.2.length cap') 51) := ⟨_, rfl⟩
  have E0 := Lib.hid (show Ext w W0 by rw [hW0]; exact Ext.alloc _ _)
  have X0 := Lib.hid (show isBlk W0 w.heap.size 51 (nodeA A n.1.length cap B n.2.length cap') by rw [hW0]; exact box_at _ _ _)
  have HW := Lib.hid (show w.alloc (.cells #[.slice A n.1.length cap, .slice B n.2.length cap'] 51) = W0 from hW0.symm)
  have SZ := Lib.hid (show W0.heap.size = w.heap.size + 1 by rw [hW0]; simp)
  have CB := Lib.hid fun W (h : Ext W0 W) => rnbytes_calls n A B cap cap' W (hV.ext (E0.out.trans h)) (hK.ext (E0.out.trans h)) hl hd hk
  clear hW0
  go_enter Tryz.func58, Tryz.ntmps58
  go_wp2_with (have _t2 := tok2; ((with_reducible refine at_alloc (t := 33) rfl ?_); refine box_new rfl (cs := zero32) (t := 33) (by first | (go_simp; done) | (go_simp; rfl)) ?_; intro g2 w2 hg2 hx2 hb2; rw [HW.out] at hb2 hg2; have f0 := ((X0.out.below hb2).cell 0).trans rfl; have f1 := ((X0.out.below hb2).cell 1).trans rfl; have H2 := Lib.hid hx2; have B2 := Lib.hid hb2; have GG2 := Lib.hid hg2; clear tok2 _t2 hx2 hb2 hg2))
  refine (CB.out _ B2.out).mono ?_
  rintro e w3 ⟨rfl, hb3⟩
  have H3 := Lib.hid (H2.out.below hb3)
  have E3 := Lib.hid (E0.out.trans (Ext.trans B2.out hb3))
  clear hb3 f0 f1
  by_cases hc : (Sp.nbytes n).2 = 0
  · rw [hc]
    have F := Lib.hid (show Sp.sha (Sp.nbytes n).1 = Sp.nsum n from (if_neg (by simpa using hc)).symm)
    have hlen : (Sp.nbytes n).1.length ≤ 4000000000 := Sp.nbytes_len n hK.2 hc
    have SO := Lib.hid (rsha_calls (Sp.nbytes n).1 w3 hlen (K.ext E3.out))
    rw [F.out, show digV (Sp.nsum n) = .agg (digC (Sp.nsum n)) from rfl, ← HA.out] at SO
    go_wp2_with fail
    refine SO.out.mono ?_
    rintro e w4 ⟨rfl, hb4⟩
    have H4 := Lib.hid (H3.out.below hb4)
    have E4 := Lib.hid (E3.out.trans hb4)
    clear hb4
    go_wp2_with ((with_reducible refine at_store (t := 33) rfl ?_); refine wpList_store_row rfl _ _ _ rfl g2 arr rfl rfl 33 _ H4.out (by rw [hds, hsl]; kernel_rfl) (by rw [hds, hsl]; rfl) w1 ?_)
    refine bodyPost_ret (results_cell_row rfl _ _ g2 33 arr (0, 0) _ rfl (setRow_heap _ _ _ _ _ _ H4.out) Tryz.underlying33 rfl (by rw [hds, hsl]; kernel_rfl)) rfl ?_
    exact ⟨rfl, below_setRow E4.out (by have := GG2.out; have := SZ.out; omega) _⟩
  · have F := Lib.hid (show arr = zero32 by rw [HA.out, show Sp.nsum n = List.replicate 32 0 from if_pos (by simpa using hc)])
    go_wp2_with ((with_reducible refine at_store (t := 33) rfl ?_); refine wpList_store_row rfl _ _ _ rfl g2 zero32 rfl rfl 33 _ H3.out (by kernel_rfl) (by kernel_rfl) (by kernel_rfl) ?_)
    refine bodyPost_ret (results_cell_row rfl _ _ g2 33 zero32 (0, 0) _ rfl (setRow_heap _ _ _ _ _ _ H3.out) Tryz.underlying33 rfl (by kernel_rfl)) rfl ?_
    exact ⟨by rw [F.out], below_setRow E3.out (by have := GG2.out; have := SZ.out; omega) _⟩
end Go.Proofs.YtmlkachfahabnaaGreatDoor
namespace Go.Proofs.YtmlkachfahabnaaGreatDoor
open Go.RowKit Go.Shelf
attribute [local go_sem] yUpon
theorem own_emptyN {k : Nat} (w : World) (B : Nat) (t : TypeId) (h : B ≤ w.heap.size) : (w.alloc (.cells #[] t)).ownsRow B t k (.slice (some ⟨w.heap.size, 0, none⟩) 0 0) 0 [] :=
  World.ownsRow_lit w #[] 0 h (by unfold maxLen; omega) (by simp)
theorem appKid : AppStat Tryz.prog 49 105 33 48 := by
  refine ⟨Tryz.underlying49, by decide, by decide, ?_⟩
  obtain ⟨i0, hi, hz0, hz1, hz2⟩ := info_parts (show (Tryz.prog.info? 105).map (fun i => (i.zero, i.size, i.bytes)) = some (some (.agg kid0), 33, 48) by kernel_rfl)
  exact ⟨i0, _, hi, hz0, hz1, hz2, by kernel_rfl⟩
theorem appDot : AppStat Tryz.prog 46 45 2 16 := by
  refine ⟨Tryz.underlying46, by decide, by decide, ?_⟩
  obtain ⟨i0, hi, hz0, hz1, hz2⟩ := info_parts (show (Tryz.prog.info? 45).map (fun i => (i.zero, i.size, i.bytes)) = some (some (.agg #[.int .i64 0, .int .i64 0]), 2, 16) by kernel_rfl)
  exact ⟨i0, _, hi, hz0, hz1, hz2, rfl⟩
theorem appStr : AppStat Tryz.prog 37 9 1 16 := by
  refine ⟨Tryz.underlying37, by decide, by decide, ?_⟩
  obtain ⟨i0, hi, hz0, hz1, hz2⟩ := info_parts (show (Tryz.prog.info? 9).map (fun i => (i.zero, i.size, i.bytes)) = some (some (.string ⟨#[]⟩), 1, 16) by kernel_rfl)
  exact ⟨i0, _, hi, hz0, hz1, hz2, rfl⟩
theorem appPtr : AppStat Tryz.prog 64 57 1 8 := by
  refine ⟨Tryz.underlying64, by decide, by decide, ?_⟩
  obtain ⟨i0, hi, hz0, hz1, hz2⟩ := info_parts (show (Tryz.prog.info? 57).map (fun i => (i.zero, i.size, i.bytes)) = some (some (.pointer none), 1, 8) by kernel_rfl)
  exact ⟨i0, _, hi, hz0, hz1, hz2, rfl⟩
set_option maxRecDepth 100000 in
set_option maxHeartbeats 2000000 in
theorem cloneKid (cs : List Value) (n cap : Nat) (A : Option Addr) (w : World) (h : Cells w A cs) (hl : cs.length = n * 33) (h1 : ∀ u ∈ cs, u.oneCell' = true) (hn : n ≤ 10000000000) :
    Calls Tryz.prog 110 #[.slice A n cap] w fun e w' => ∃ v, e = .returned v ∧ w'.ownsRow w.heap.size 105 33 v n cs ∧ Ext w w' := by
  have EQ := fun (w : World) (a : Option Addr) (n c : Nat) => Lib.run_eql_slice_nil (P := Tryz.prog) w 49 105 a n c 0 0 Tryz.underlying49
  cases A with
  | none =>
    have hc : cs = [] := Classical.byContradiction fun hc => by obtain ⟨g, o, hA, _⟩ := h hc; cases hA
    subst hc
    have hn0 : n = 0 := by simp at hl; omega
    subst hn0
    go_enter Tryz.func110, Tryz.ntmps110
    go_wp2
    go_ret
    exact ⟨_, rfl, World.ownsRow_nil _ _ _ _, Ext.refl _⟩
  | some a =>
    have HH := Lib.hid h
    clear h
    have tok4 : True := trivial
    go_enter Tryz.func110, Tryz.ntmps110
    go_wp2_with (have _t4 := tok4; at_builtin; refine app_cells appKid rfl _ _ rfl w.heap.size _ 0 [] rfl (own_emptyN _ _ _ (Nat.le_refl _)) (some a) n cap cs rfl (by omega) (HH.out.ext (Ext.alloc _ _)) h1 (by omega) (by simp) ?_; intro v4 w4 hown4 hgr4 hb4; rw [Nat.zero_add, List.nil_append] at hown4; have HO := Lib.hid hown4; have HB := Lib.hid hb4; clear hown4 hgr4 hb4 tok4 _t4)
    go_ret
    exact ⟨_, rfl, HO.out, HB.out.from (Ext.alloc _ _)⟩
set_option maxRecDepth 100000 in
set_option maxHeartbeats 2000000 in
theorem cloneVer (cs : List Value) (n cap : Nat) (A : Option Addr) (w : World) (h : Cells w A cs) (hl : cs.length = n * 5) (h1 : ∀ u ∈ cs, u.oneCell' = true) (hn : n ≤ 10000000000) :
    Calls Tryz.prog 44 #[.slice A n cap] w fun e w' => ∃ v, e = .returned v ∧ w'.ownsRow w.heap.size 48 5 v n cs ∧ Ext w w' := by
  have EQ := fun (w : World) (a : Option Addr) (n c : Nat) => Lib.run_eql_slice_nil (P := Tryz.prog) w 39 48 a n c 0 0 Tryz.underlying39
  cases A with
  | none =>
    have hc : cs = [] := Classical.byContradiction fun hc => by obtain ⟨g, o, hA, _⟩ := h hc; cases hA
    subst hc
    have hn0 : n = 0 := by simp at hl; omega
    subst hn0
    go_enter Tryz.func44, Tryz.ntmps44
    go_wp2
    go_ret
    exact ⟨_, rfl, World.ownsRow_nil _ _ _ _, Ext.refl _⟩
  | some a =>
    have HH := Lib.hid h
    clear h
    have tok4 : True := trivial
    go_enter Tryz.func44, Tryz.ntmps44
    go_wp2_with (have _t4 := tok4; at_builtin; refine app_cells appVer rfl _ _ rfl w.heap.size _ 0 [] rfl (own_emptyN _ _ _ (Nat.le_refl _)) (some a) n cap cs rfl (by omega) (HH.out.ext (Ext.alloc _ _)) h1 (by omega) (by simp) ?_; intro v4 w4 hown4 hgr4 hb4; rw [Nat.zero_add, List.nil_append] at hown4; have HO := Lib.hid hown4; have HB := Lib.hid hb4; clear hown4 hgr4 hb4 tok4 _t4)
    go_ret
    exact ⟨_, rfl, HO.out, HB.out.from (Ext.alloc _ _)⟩
set_option maxRecDepth 100000 in
set_option maxHeartbeats 2000000 in
theorem cloneDot (cs : List Value) (n cap : Nat) (A : Option Addr) (w : World) (h : Cells w A cs) (hl : cs.length = n * 2) (h1 : ∀ u ∈ cs, u.oneCell' = true) (hn : n ≤ 10000000000) :
    Calls Tryz.prog 45 #[.slice A n cap] w fun e w' => ∃ v, e = .returned v ∧ w'.ownsRow w.heap.size 45 2 v n cs ∧ Ext w w' := by
  have EQ := fun (w : World) (a : Option Addr) (n c : Nat) => Lib.run_eql_slice_nil (P := Tryz.prog) w 46 45 a n c 0 0 Tryz.underlying46
  cases A with
  | none =>
    have hc : cs = [] := Classical.byContradiction fun hc => by obtain ⟨g, o, hA, _⟩ := h hc; cases hA
    subst hc
    have hn0 : n = 0 := by simp at hl; omega
    subst hn0
    go_enter Tryz.func45, Tryz.ntmps45
    go_wp2
    go_ret
    exact ⟨_, rfl, World.ownsRow_nil _ _ _ _, Ext.refl _⟩
  | some a =>
    have HH := Lib.hid h
    clear h
    have tok4 : True := trivial
    go_enter Tryz.func45, Tryz.ntmps45
    go_wp2_with (have _t4 := tok4; at_builtin; refine app_cells appDot rfl _ _ rfl w.heap.size _ 0 [] rfl (own_emptyN _ _ _ (Nat.le_refl _)) (some a) n cap cs rfl (by omega) (HH.out.ext (Ext.alloc _ _)) h1 (by omega) (by simp) ?_; intro v4 w4 hown4 hgr4 hb4; rw [Nat.zero_add, List.nil_append] at hown4; have HO := Lib.hid hown4; have HB := Lib.hid hb4; clear hown4 hgr4 hb4 tok4 _t4)
    go_ret
    exact ⟨_, rfl, HO.out, HB.out.from (Ext.alloc _ _)⟩
set_option maxRecDepth 100000 in
set_option maxHeartbeats 2000000 in
theorem cloneStr (cs : List Value) (n cap : Nat) (A : Option Addr) (w : World) (h : Cells w A cs) (hl : cs.length = n * 1) (h1 : ∀ u ∈ cs, u.oneCell' = true) (hn : n ≤ 10000000000) :
    Calls Tryz.prog 67 #[.slice A n cap] w fun e w' => ∃ v, e = .returned v ∧ w'.ownsRow w.heap.size 9 1 v n cs ∧ Ext w w' := by
  have EQ := fun (w : World) (a : Option Addr) (n c : Nat) => Lib.run_eql_slice_nil (P := Tryz.prog) w 37 9 a n c 0 0 Tryz.underlying37
  cases A with
  | none =>
    have hc : cs = [] := Classical.byContradiction fun hc => by obtain ⟨g, o, hA, _⟩ := h hc; cases hA
    subst hc
    have hn0 : n = 0 := by simp at hl; omega
    subst hn0
    go_enter Tryz.func67, Tryz.ntmps67
    go_wp2
    go_ret
    exact ⟨_, rfl, World.ownsRow_nil _ _ _ _, Ext.refl _⟩
  | some a =>
    have HH := Lib.hid h
    clear h
    have tok4 : True := trivial
    go_enter Tryz.func67, Tryz.ntmps67
    go_wp2_with (have _t4 := tok4; at_builtin; refine app_cells appStr rfl _ _ rfl w.heap.size _ 0 [] rfl (own_emptyN _ _ _ (Nat.le_refl _)) (some a) n cap cs rfl (by omega) (HH.out.ext (Ext.alloc _ _)) h1 (by omega) (by simp) ?_; intro v4 w4 hown4 hgr4 hb4; rw [Nat.zero_add, List.nil_append] at hown4; have HO := Lib.hid hown4; have HB := Lib.hid hb4; clear hown4 hgr4 hb4 tok4 _t4)
    go_ret
    exact ⟨_, rfl, HO.out, HB.out.from (Ext.alloc _ _)⟩
set_option maxRecDepth 100000 in
set_option maxHeartbeats 2000000 in
theorem clonePtr (cs : List Value) (n cap : Nat) (A : Option Addr) (w : World) (h : Cells w A cs) (hl : cs.length = n * 1) (h1 : ∀ u ∈ cs, u.oneCell' = true) (hn : n ≤ 10000000000) :
    Calls Tryz.prog 68 #[.slice A n cap] w fun e w' => ∃ v, e = .returned v ∧ w'.ownsRow w.heap.size 57 1 v n cs ∧ Ext w w' := by
  have EQ := fun (w : World) (a : Option Addr) (n c : Nat) => Lib.run_eql_slice_nil (P := Tryz.prog) w 64 57 a n c 0 0 Tryz.underlying64
  cases A with
  | none =>
    have hc : cs = [] := Classical.byContradiction fun hc => by obtain ⟨g, o, hA, _⟩ := h hc; cases hA
    subst hc
    have hn0 : n = 0 := by simp at hl; omega
    subst hn0
    go_enter Tryz.func68, Tryz.ntmps68
    go_wp2
    go_ret
    exact ⟨_, rfl, World.ownsRow_nil _ _ _ _, Ext.refl _⟩
  | some a =>
    have HH := Lib.hid h
    clear h
    have tok4 : True := trivial
    go_enter Tryz.func68, Tryz.ntmps68
    go_wp2_with (have _t4 := tok4; at_builtin; refine app_cells appPtr rfl _ _ rfl w.heap.size _ 0 [] rfl (own_emptyN _ _ _ (Nat.le_refl _)) (some a) n cap cs rfl (by omega) (HH.out.ext (Ext.alloc _ _)) h1 (by omega) (by simp) ?_; intro v4 w4 hown4 hgr4 hb4; rw [Nat.zero_add, List.nil_append] at hown4; have HO := Lib.hid hown4; have HB := Lib.hid hb4; clear hown4 hgr4 hb4 tok4 _t4)
    go_ret
    exact ⟨_, rfl, HO.out, HB.out.from (Ext.alloc _ _)⟩
end Go.Proofs.YtmlkachfahabnaaGreatDoor
namespace Go.Proofs.YtmlkachfahabnaaGreatDoor
open Go.RowKit Go.Shelf
attribute [local go_sem] yUpon
/-- A call of a Go function, as one step of a region that draws. -/
theorem step_call {P : Program} {ops : Array Oper} {o : Oper} {a : Act} {w w0 : World} {K : Act → World → Prop} {Q : Exit → Act → World → Prop} {E : Prop} {R : Ending → World → Prop} (hg : o.guard = none) (f : FuncId) (args : Array Value)
    (hrun : (execOp a.eval o).run P w = .ok (.enter f args) w0) (hC : Calls P f args w0 R) (hK : ∀ e w', R e w' → ∃ v, e = .returned v ∧ K (a.put o.dst v) w') :
    if Region.wanted o (yielded ops a.tmps) = true then Oper.wp P o a w K Q else E := by
  have hw : Region.wanted o (yielded ops a.tmps) = true := by simp [Region.wanted, hg]
  rw [if_pos hw]
  unfold Oper.wp
  rw [hrun]
  exact hC.mono (fun e w' h => by obtain ⟨v, rfl, hk⟩ := hK e w' h; exact hk)
def isSl : Value → Bool
  | .slice _ _ _ => true
  | _ => false
theorem Cells.apart {w w' : World} {g : Nat} {t : TypeId} {zs : Array Value} {A : Option Addr} {cs : List Value} (h : Cells w A cs) (e : Only g w w') (hx : isBlk w g t zs) (hs : ∀ z ∈ zs.toList, isSl z = true) (h0 : ∀ u, cs[0]? = some u → isSl u = false) : Cells w' A cs := fun hn => by
  obtain ⟨g1, o, hA, hc⟩ := h hn
  refine Cells.only (w := w) (g := g) (fun _ => ⟨g1, o, hA, hc⟩) (fun a ha => ?_) e hn
  rw [hA] at ha
  cases ha
  show g1 ≠ g
  rintro rfl
  obtain ⟨u, r, rfl⟩ := List.exists_cons_of_ne_nil hn
  have h1 := hc 0 u rfl
  rw [hx.cell (o + 0)] at h1
  have h2 := hs u (by rw [← Array.getElem?_toList] at h1; exact List.mem_of_getElem? h1)
  rw [h0 u rfl] at h2
  cases h2
theorem Vers.apart {w w' : World} {g : Nat} {t : TypeId} {zs : Array Value} {A : Option Addr} {l : List Sp.Ver} (h : Vers w A l) (e : Only g w w') (hx : isBlk w g t zs) (hs : ∀ z ∈ zs.toList, isSl z = true) : Vers w' A l := by
  obtain ⟨m, h1, h2, h3⟩ := h
  refine ⟨m, h1, Cells.apart h2 e hx hs ?_, fun x hm => ⟨Cells.apart (h3 x hm).1 e hx hs ?_, (h3 x hm).2⟩⟩
  · intro u hu
    cases m with
    | nil => cases hu
    | cons x r => cases hu; rfl
  · intro u hu
    cases hp : x.2.2.past with
    | nil => rw [hp] at hu; cases hu
    | cons d r => rw [hp] at hu; cases hu; rfl
theorem Kids.apart {w w' : World} {g : Nat} {t : TypeId} {zs : Array Value} {A : Option Addr} {l : List Sp.Kid} (h : Kids w A l) (e : Only g w w') (hx : isBlk w g t zs) (hs : ∀ z ∈ zs.toList, isSl z = true) : Kids w' A l := by
  refine ⟨Cells.apart h.1 e hx hs ?_, h.2⟩
  intro u hu
  cases l with
  | nil => cases hu
  | cons x r => cases hu; rfl
theorem kids_one : ∀ (l : List Sp.Kid), ∀ u ∈ kidsC l, u.oneCell' = true
  | [], u, h => by cases h
  | k :: r, u, h => by
    rcases List.mem_append.1 h with h | h
    · unfold kidL at h
      rcases List.mem_cons.1 h with rfl | h
      · rfl
      · exact bytes_one _ u h
    · exact kids_one r u h
set_option maxRecDepth 100000 in
set_option maxHeartbeats 4000000 in
theorem nempty_calls (n : Sp.Node) (A B : Option Addr) (cap cap' : Nat) (w : World) :
    Calls Tryz.prog 79 #[nodeV A n.1.length cap B n.2.length cap'] w fun e w' => e = .returned (.bool (decide (n.1 = [] ∧ n.2 = []))) ∧ Ext w w' := by
  go_enter Tryz.func79, Tryz.ntmps79
  by_cases h1 : n.1 = []
  · by_cases h2 : n.2 = []
    · go_wp2
      go_ret
      exact ⟨ret_bool (by simp [h1, h2]), Ext.alloc _ _⟩
    · go_wp2
      go_ret
      exact ⟨ret_bool (by simp [h1, h2]), Ext.alloc _ _⟩
  · have e1 : ((n.1.length : Int) == 0) = false := by rw [beq_eq_false_iff_ne]; intro h; exact h1 (List.eq_nil_of_length_eq_zero (by omega))
    go_wp2
    go_ret
    exact ⟨ret_bool (by simp [h1]), Ext.alloc _ _⟩
set_option maxRecDepth 100000 in
set_option maxHeartbeats 4000000 in
theorem nseen_calls (n : Sp.Node) (A B : Option Addr) (cap cap' : Nat) (w : World) (hV : Vers w A n.1) (hK : Kids w B n.2) (hl : n.1.length ≤ 1000000) (hk : n.2.length ≤ 10000000) :
    Calls Tryz.prog 78 #[nodeV A n.1.length cap B n.2.length cap'] w fun e w' => ∃ A2 c2 B2 c3, e = .returned (nodeV A2 (Sp.live n.1).length c2 B2 n.2.length c3) ∧ Vers w' A2 (Sp.live n.1) ∧ Kids w' B2 n.2 ∧ Ext w w' := by
  obtain ⟨W0, hW0⟩ : ∃ W0, W0 = w.alloc (.cells (nodeA A n.1.length cap B n.2.length cap') 51) := ⟨_, rfl⟩
  have E0 := Lib.hid (show Ext w W0 by rw [hW0]; exact Ext.alloc _ _)
  have X0 := Lib.hid (show isBlk W0 w.heap.size 51 (nodeA A n.1.length cap B n.2.length cap') by rw [hW0]; exact box_at _ _ _)
  have HW := Lib.hid (show w.alloc (.cells #[.slice A n.1.length cap, .slice B n.2.length cap'] 51) = W0 from hW0.symm)
  have SZ := Lib.hid (show W0.heap.size = w.heap.size + 1 by rw [hW0]; simp)
  have LV := Lib.hid fun W (h : Ext W0 W) => live_calls n.1 A cap W (hV.ext (E0.out.trans h)) hl
  have CL := Lib.hid fun W (h : Ext W0 W) => cloneKid (kidsC n.2) n.2.length cap' B W (hK.ext (E0.out.trans h)).1 (kidsC_len n.2 hK.2) (kids_one n.2) (by omega)
  have tok2 : True := trivial
  clear hW0
  go_enter Tryz.func78, Tryz.ntmps78
  go_wp2_with (have _t2 := tok2; ((with_reducible refine at_alloc (t := 51) rfl ?_); refine box_new rfl (cs := #[.slice none 0 0, .slice none 0 0]) (t := 51) (by first | (go_simp; done) | (go_simp; rfl)) ?_; intro g2 w2 hg2 hx2 hb2; rw [HW.out] at hb2 hg2; have H2 := Lib.hid hx2; have B2 := Lib.hid hb2; have GG2 := Lib.hid hg2; clear tok2 _t2 hx2 hb2 hg2))
  have f0 := ((X0.out.below B2.out).cell 0).trans rfl
  have f1 := ((X0.out.below B2.out).cell 1).trans rfl
  have tokL : True := trivial
  go_region_law (first
    | (have _tL := tokL; refine step_call rfl 109 #[.slice A n.1.length cap] (by go_simp) (LV.out _ (show Ext W0 w2 from B2.out).drew) ?_; rintro e w3 ⟨v3, rfl, hO3, hb3⟩; obtain ⟨A2, c2, rfl, hV2⟩ := hO3.read; have B3 := Lib.hid (show Ext w2 w3 from (show Ext w2 w2.drew from (Below.refl _ _).drew).trans hb3); have D3 := Lib.hid hV2; have f1 := ((X0.out.below (Ext.trans B2.out B3.out)).cell 1).trans rfl; clear hO3 hb3 hV2 tokL _tL; refine ⟨_, rfl, ?_⟩)
    | (refine step_call rfl 110 #[.slice B n.2.length cap'] (by go_simp) (CL.out w3 (Ext.trans B2.out B3.out)) ?_; rintro e w4 ⟨v4, rfl, hO4, hb4⟩; obtain ⟨g4, c4, hv4, hK4⟩ := own_read hO4; subst hv4; have B4 := Lib.hid (B3.out.trans hb4); have D4 := Lib.hid (show Kids w4 g4 n.2 from ⟨hK4, hK.2⟩); have V4 := Lib.hid (D3.out.ext hb4); have z := H2.out.below B4.out; have k0 := (z.cell 0).trans rfl; have k1 := (z.cell 1).trans rfl; have k2 := z.frozen 0; have k3 := z.frozen 1; have H4 := Lib.hid z; clear hO4 hb4 hK4 z; refine ⟨_, rfl, ?_⟩))
  all_goals (
    go_wp2
    have hz := (H4.out.put 0 (.slice A2 (Sp.live n.1).length c2) rfl).put 1 (.slice g4 n.2.length c4) rfl
    refine bodyPost_ret (results_cell_row rfl _ _ g2 51 #[.slice A2 (Sp.live n.1).length c2, .slice g4 n.2.length c4] (0, 0) _ rfl hz Tryz.underlying51 rfl (by kernel_rfl)) rfl ?_
    have e1 := (Only.set g2 0 (.slice A2 (Sp.live n.1).length c2) w4).trans (Only.set g2 1 (.slice g4 n.2.length c4) _)
    have hs : ∀ z ∈ (#[.slice none 0 0, .slice none 0 0] : Array Value).toList, isSl z = true := by decide
    have BW := E0.out.trans (Ext.trans B2.out B4.out)
    exact ⟨A2, c2, g4, c4, rfl, V4.out.apart e1 H4.out hs, D4.out.apart e1 H4.out hs, BW.from' (e1.below (by have := GG2.out; have := SZ.out; omega) BW.size)⟩)
end Go.Proofs.YtmlkachfahabnaaGreatDoor
