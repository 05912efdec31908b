/- Walks: nodes' digests. Walks: slices.Clone. -/
import Derived.Test.YtedjiaenodechaaGreatDoorTN26
import Derived.WalkLawsBesides
namespace Go.Proofs.YtedjiaenodechaaGreatDoor
open Go.RowKit Go.Shelf
attribute [local go_sem] yUpon strOf_toList
theorem Sp.nbytes_len (n : Sp.Node) (h : KidsOk n.2) (hc : (Sp.nbytes n).2 = 0) : (Sp.nbytes n).1.length ≤ 4000000000 := by
  unfold Sp.nbytes at *
  by_cases h0 : Sp.ncheck n = 0
  · rw [if_neg (by simpa using h0)] at *
    obtain ⟨_, h2, _⟩ := Sp.ncheck_ok h0
    have h1 := Sp.wleaf_len n.1 ([], 0)
    have h3 := Sp.wnum_len (n.2.length : Int) (Sp.wleaf n.1 ([], 0))
    have h4 := Sp.wkids_len 1000000 32 n.2 (Sp.wnum n.2.length (Sp.wleaf n.1 ([], 0))) (fun k hk => by have := h k hk; omega)
    have h5 : n.2.length * (1000000 + 32 + 20) ≤ 128 * (1000000 + 32 + 20) := Nat.mul_le_mul_right _ h2
    have h6 : (Sp.wdone (Sp.wnode n)).1.length ≤ (Sp.wnode n).1.length := by unfold Sp.wdone; split <;> simp
    unfold Sp.wnode at *
    simp at h1
    omega
  · rw [if_pos (by simpa using h0)]; simp
set_option maxRecDepth 100000 in
set_option maxHeartbeats 4000000 in
theorem nsum_calls (n : Sp.Node) (A B : Option Addr) (cap cap' : Nat) (w : World) (hV : Vers w A n.1) (hK : Kids w B n.2)  (K : KeysAt w 2) :
    Calls Tryz.prog 110 #[nodeV A n.1.length cap B n.2.length cap'] w fun e w' => e = .returned (digV (Sp.nsum n)) ∧ Ext w w' := by
  have hsl := Sp.nsum_len n
  have hds := digC_size (Sp.nsum n)
  obtain ⟨arr, ha⟩ : ∃ arr, arr = digC (Sp.nsum n) := ⟨_, rfl⟩
  have HA := Lib.hid ha
  rw [← ha] at hds
  have w1 : arr.all (·.oneCell') = true := by rw [ha]; exact all_oneCell_toArray (bytes_one _)
  clear ha
  rw [show digV (Sp.nsum n) = .agg (digC (Sp.nsum n)) from rfl, ← HA.out]
  have tok2 : True := trivial
  obtain ⟨W0, hW0⟩ : ∃ W0, W0 = w.alloc (.cells (nodeA A n.1.length cap B n.2.length cap') 34) := ⟨_, rfl⟩
  have E0 := Lib.hid (show Ext w W0 by rw [hW0]; exact Ext.alloc _ _)
  have X0 := Lib.hid (show isBlk W0 w.heap.size 34 (nodeA A n.1.length cap B n.2.length cap') by rw [hW0]; exact box_at _ _ _)
  have HW := Lib.hid (show w.alloc (.cells #[.slice A n.1.length cap, .slice B n.2.length cap'] 34) = W0 from hW0.symm)
  have SZ := Lib.hid (show W0.heap.size = w.heap.size + 1 by rw [hW0]; simp)
  have CB := Lib.hid fun W (h : Ext W0 W) => nbytes_calls n A B cap cap' W (hV.ext (E0.out.trans h)) (hK.ext (E0.out.trans h)) 
  clear hW0
  go_enter Tryz.func110, Tryz.ntmps110
  go_wp2_with (have _t2 := tok2; ((with_reducible refine at_alloc (t := 41) rfl ?_); refine box_new rfl (cs := zero32) (t := 41) (by first | (go_simp; done) | (go_simp; rfl)) ?_; intro g2 w2 hg2 hx2 hb2; rw [HW.out] at hb2 hg2; have f0 := ((X0.out.below hb2).cell 0).trans rfl; have f1 := ((X0.out.below hb2).cell 1).trans rfl; have H2 := Lib.hid hx2; have B2 := Lib.hid hb2; have GG2 := Lib.hid hg2; clear tok2 _t2 hx2 hb2 hg2))
  refine (CB.out _ B2.out).mono ?_
  rintro e w3 ⟨rfl, hb3⟩
  have H3 := Lib.hid (H2.out.below hb3)
  have E3 := Lib.hid (E0.out.trans (Ext.trans B2.out hb3))
  clear hb3 f0 f1
  by_cases hc : (Sp.nbytes n).2 = 0
  · rw [hc]
    have F := Lib.hid (show Sp.sha (Sp.nbytes n).1 = Sp.nsum n from (if_neg (by simpa using hc)).symm)
    have hlen : (Sp.nbytes n).1.length ≤ 4000000000 := Sp.nbytes_len n hK.2 hc
    have SO := Lib.hid (sha_calls (Sp.nbytes n).1 w3 hlen (K.ext E3.out))
    rw [F.out, show digV (Sp.nsum n) = .agg (digC (Sp.nsum n)) from rfl, ← HA.out] at SO
    go_wp2_with fail
    refine SO.out.mono ?_
    rintro e w4 ⟨rfl, hb4⟩
    have H4 := Lib.hid (H3.out.below hb4)
    have E4 := Lib.hid (E3.out.trans hb4)
    clear hb4
    go_wp2_with ((with_reducible refine at_store (t := 41) rfl ?_); refine wpList_store_row rfl _ _ _ rfl g2 arr rfl rfl 41 _ H4.out (by rw [hds, hsl]; kernel_rfl) (by rw [hds, hsl]; rfl) w1 ?_)
    refine bodyPost_ret (results_cell_row rfl _ _ g2 41 arr (0, 0) _ rfl (setRow_heap _ _ _ _ _ _ H4.out) Tryz.underlying41 rfl (by rw [hds, hsl]; kernel_rfl)) rfl ?_
    exact ⟨rfl, below_setRow E4.out (by have := GG2.out; have := SZ.out; omega) _⟩
  · have F := Lib.hid (show arr = zero32 by rw [HA.out, show Sp.nsum n = List.replicate 32 0 from if_pos (by simpa using hc)])
    go_wp2_with ((with_reducible refine at_store (t := 41) rfl ?_); refine wpList_store_row rfl _ _ _ rfl g2 zero32 rfl rfl 41 _ H3.out (by kernel_rfl) (by kernel_rfl) (by kernel_rfl) ?_)
    refine bodyPost_ret (results_cell_row rfl _ _ g2 41 zero32 (0, 0) _ rfl (setRow_heap _ _ _ _ _ _ H3.out) Tryz.underlying41 rfl (by kernel_rfl)) rfl ?_
    exact ⟨by rw [F.out], below_setRow E3.out (by have := GG2.out; have := SZ.out; omega) _⟩
set_option maxRecDepth 100000 in
set_option maxHeartbeats 4000000 in
theorem rnsum_calls (n : Sp.Node) (A B : Option Addr) (cap cap' : Nat) (w : World) (hV : Vers w A n.1) (hK : Kids w B n.2) (hl : n.1.length ≤ 1000) (hd : ∀ v ∈ n.1, v.data.length ≤ 100000 ∧ v.past.length ≤ 100000) (hk : n.2.length ≤ 1000) (K : KeysAt w 0) :
    Calls Tryz.prog 46 #[nodeV A n.1.length cap B n.2.length cap'] w fun e w' => e = .returned (digV (Sp.nsum n)) ∧ Ext w w' := by
  have hsl := Sp.nsum_len n
  have hds := digC_size (Sp.nsum n)
  obtain ⟨arr, ha⟩ : ∃ arr, arr = digC (Sp.nsum n) := ⟨_, rfl⟩
  have HA := Lib.hid ha
  rw [← ha] at hds
  have w1 : arr.all (·.oneCell') = true := by rw [ha]; exact all_oneCell_toArray (bytes_one _)
  clear ha
  rw [show digV (Sp.nsum n) = .agg (digC (Sp.nsum n)) from rfl, ← HA.out]
  have tok2 : True := trivial
  obtain ⟨W0, hW0⟩ : ∃ W0, W0 = w.alloc (.cells (nodeA A n.1.length cap B n.2.length cap') 34) := ⟨_, rfl⟩
  have E0 := Lib.hid (show Ext w W0 by rw [hW0]; exact Ext.alloc _ _)
  have X0 := Lib.hid (show isBlk W0 w.heap.size 34 (nodeA A n.1.length cap B n.2.length cap') by rw [hW0]; exact box_at _ _ _)
  have HW := Lib.hid (show w.alloc (.cells #[.slice A n.1.length cap, .slice B n.2.length cap'] 34) = W0 from hW0.symm)
  have SZ := Lib.hid (show W0.heap.size = w.heap.size + 1 by rw [hW0]; simp)
  have CB := Lib.hid fun W (h : Ext W0 W) => rnbytes_calls n A B cap cap' W (hV.ext (E0.out.trans h)) (hK.ext (E0.out.trans h)) hl hd hk
  clear hW0
  go_enter Tryz.func46, Tryz.ntmps46
  go_wp2_with (have _t2 := tok2; ((with_reducible refine at_alloc (t := 41) rfl ?_); refine box_new rfl (cs := zero32) (t := 41) (by first | (go_simp; done) | (go_simp; rfl)) ?_; intro g2 w2 hg2 hx2 hb2; rw [HW.out] at hb2 hg2; have f0 := ((X0.out.below hb2).cell 0).trans rfl; have f1 := ((X0.out.below hb2).cell 1).trans rfl; have H2 := Lib.hid hx2; have B2 := Lib.hid hb2; have GG2 := Lib.hid hg2; clear tok2 _t2 hx2 hb2 hg2))
  refine (CB.out _ B2.out).mono ?_
  rintro e w3 ⟨rfl, hb3⟩
  have H3 := Lib.hid (H2.out.below hb3)
  have E3 := Lib.hid (E0.out.trans (Ext.trans B2.out hb3))
  clear hb3 f0 f1
  by_cases hc : (Sp.nbytes n).2 = 0
  · rw [hc]
    have F := Lib.hid (show Sp.sha (Sp.nbytes n).1 = Sp.nsum n from (if_neg (by simpa using hc)).symm)
    have hlen : (Sp.nbytes n).1.length ≤ 4000000000 := Sp.nbytes_len n hK.2 hc
    have SO := Lib.hid (rsha_calls (Sp.nbytes n).1 w3 hlen (K.ext E3.out))
    rw [F.out, show digV (Sp.nsum n) = .agg (digC (Sp.nsum n)) from rfl, ← HA.out] at SO
    go_wp2_with fail
    refine SO.out.mono ?_
    rintro e w4 ⟨rfl, hb4⟩
    have H4 := Lib.hid (H3.out.below hb4)
    have E4 := Lib.hid (E3.out.trans hb4)
    clear hb4
    go_wp2_with ((with_reducible refine at_store (t := 41) rfl ?_); refine wpList_store_row rfl _ _ _ rfl g2 arr rfl rfl 41 _ H4.out (by rw [hds, hsl]; kernel_rfl) (by rw [hds, hsl]; rfl) w1 ?_)
    refine bodyPost_ret (results_cell_row rfl _ _ g2 41 arr (0, 0) _ rfl (setRow_heap _ _ _ _ _ _ H4.out) Tryz.underlying41 rfl (by rw [hds, hsl]; kernel_rfl)) rfl ?_
    exact ⟨rfl, below_setRow E4.out (by have := GG2.out; have := SZ.out; omega) _⟩
  · have F := Lib.hid (show arr = zero32 by rw [HA.out, show Sp.nsum n = List.replicate 32 0 from if_pos (by simpa using hc)])
    go_wp2_with ((with_reducible refine at_store (t := 41) rfl ?_); refine wpList_store_row rfl _ _ _ rfl g2 zero32 rfl rfl 41 _ H3.out (by kernel_rfl) (by kernel_rfl) (by kernel_rfl) ?_)
    refine bodyPost_ret (results_cell_row rfl _ _ g2 41 zero32 (0, 0) _ rfl (setRow_heap _ _ _ _ _ _ H3.out) Tryz.underlying41 rfl (by kernel_rfl)) rfl ?_
    exact ⟨by rw [F.out], below_setRow E3.out (by have := GG2.out; have := SZ.out; omega) _⟩
end Go.Proofs.YtedjiaenodechaaGreatDoor
namespace Go.Proofs.YtedjiaenodechaaGreatDoor
open Go.RowKit Go.Shelf
attribute [local go_sem] yUpon
theorem own_emptyN {k : Nat} (w : World) (B : Nat) (t : TypeId) (h : B ≤ w.heap.size) : (w.alloc (.cells #[] t)).ownsRow B t k (.slice (some ⟨w.heap.size, 0, none⟩) 0 0) 0 [] :=
  World.ownsRow_lit w #[] 0 h (by unfold maxLen; omega) (by simp)
theorem appKid : AppStat Tryz.prog 32 95 33 48 := by
  refine ⟨Tryz.underlying32, by decide, by decide, ?_⟩
  obtain ⟨i0, hi, hz0, hz1, hz2⟩ := info_parts (show (Tryz.prog.info? 95).map (fun i => (i.zero, i.size, i.bytes)) = some (some (.agg kid0), 33, 48) by kernel_rfl)
  exact ⟨i0, _, hi, hz0, hz1, hz2, by kernel_rfl⟩
theorem appDot : AppStat Tryz.prog 80 79 2 16 := by
  refine ⟨Tryz.underlying80, by decide, by decide, ?_⟩
  obtain ⟨i0, hi, hz0, hz1, hz2⟩ := info_parts (show (Tryz.prog.info? 79).map (fun i => (i.zero, i.size, i.bytes)) = some (some (.agg #[.int .i64 0, .int .i64 0]), 2, 16) by kernel_rfl)
  exact ⟨i0, _, hi, hz0, hz1, hz2, rfl⟩
theorem appStr : AppStat Tryz.prog 57 9 1 16 := by
  refine ⟨Tryz.underlying57, by decide, by decide, ?_⟩
  obtain ⟨i0, hi, hz0, hz1, hz2⟩ := info_parts (show (Tryz.prog.info? 9).map (fun i => (i.zero, i.size, i.bytes)) = some (some (.string ⟨#[]⟩), 1, 16) by kernel_rfl)
  exact ⟨i0, _, hi, hz0, hz1, hz2, rfl⟩
theorem appPtr : AppStat Tryz.prog 105 86 1 8 := by
  refine ⟨Tryz.underlying105, by decide, by decide, ?_⟩
  obtain ⟨i0, hi, hz0, hz1, hz2⟩ := info_parts (show (Tryz.prog.info? 86).map (fun i => (i.zero, i.size, i.bytes)) = some (some (.pointer none), 1, 8) by kernel_rfl)
  exact ⟨i0, _, hi, hz0, hz1, hz2, rfl⟩
set_option maxRecDepth 100000 in
set_option maxHeartbeats 2000000 in
theorem cloneKid (cs : List Value) (n cap : Nat) (A : Option Addr) (w : World) (h : Cells w A cs) (hl : cs.length = n * 33) (h1 : ∀ u ∈ cs, u.oneCell' = true) (hn : n ≤ 10000000000) :
    Calls Tryz.prog 143 #[.slice A n cap] w fun e w' => ∃ v, e = .returned v ∧ w'.ownsRow w.heap.size 95 33 v n cs ∧ Ext w w' := by
  have EQ := fun (w : World) (a : Option Addr) (n c : Nat) => Lib.run_eql_slice_nil (P := Tryz.prog) w 32 95 a n c 0 0 Tryz.underlying32
  cases A with
  | none =>
    have hc : cs = [] := Classical.byContradiction fun hc => by obtain ⟨g, o, hA, _⟩ := h hc; cases hA
    subst hc
    have hn0 : n = 0 := by simp at hl; omega
    subst hn0
    go_enter Tryz.func143, Tryz.ntmps143
    go_wp2
    go_ret
    exact ⟨_, rfl, World.ownsRow_nil _ _ _ _, Ext.refl _⟩
  | some a =>
    have HH := Lib.hid h
    clear h
    have tok4 : True := trivial
    go_enter Tryz.func143, Tryz.ntmps143
    go_wp2_with (have _t4 := tok4; at_builtin; refine app_cells appKid rfl _ _ rfl w.heap.size _ 0 [] rfl (own_emptyN _ _ _ (Nat.le_refl _)) (some a) n cap cs rfl (by omega) (HH.out.ext (Ext.alloc _ _)) h1 (by omega) (by simp) ?_; intro v4 w4 hown4 hgr4 hb4; rw [Nat.zero_add, List.nil_append] at hown4; have HO := Lib.hid hown4; have HB := Lib.hid hb4; clear hown4 hgr4 hb4 tok4 _t4)
    go_ret
    exact ⟨_, rfl, HO.out, HB.out.from (Ext.alloc _ _)⟩
set_option maxRecDepth 100000 in
set_option maxHeartbeats 2000000 in
theorem cloneVer (cs : List Value) (n cap : Nat) (A : Option Addr) (w : World) (h : Cells w A cs) (hl : cs.length = n * 5) (h1 : ∀ u ∈ cs, u.oneCell' = true) (hn : n ≤ 10000000000) :
    Calls Tryz.prog 79 #[.slice A n cap] w fun e w' => ∃ v, e = .returned v ∧ w'.ownsRow w.heap.size 82 5 v n cs ∧ Ext w w' := by
  have EQ := fun (w : World) (a : Option Addr) (n c : Nat) => Lib.run_eql_slice_nil (P := Tryz.prog) w 31 82 a n c 0 0 Tryz.underlying31
  cases A with
  | none =>
    have hc : cs = [] := Classical.byContradiction fun hc => by obtain ⟨g, o, hA, _⟩ := h hc; cases hA
    subst hc
    have hn0 : n = 0 := by simp at hl; omega
    subst hn0
    go_enter Tryz.func79, Tryz.ntmps79
    go_wp2
    go_ret
    exact ⟨_, rfl, World.ownsRow_nil _ _ _ _, Ext.refl _⟩
  | some a =>
    have HH := Lib.hid h
    clear h
    have tok4 : True := trivial
    go_enter Tryz.func79, Tryz.ntmps79
    go_wp2_with (have _t4 := tok4; at_builtin; refine app_cells appVer rfl _ _ rfl w.heap.size _ 0 [] rfl (own_emptyN _ _ _ (Nat.le_refl _)) (some a) n cap cs rfl (by omega) (HH.out.ext (Ext.alloc _ _)) h1 (by omega) (by simp) ?_; intro v4 w4 hown4 hgr4 hb4; rw [Nat.zero_add, List.nil_append] at hown4; have HO := Lib.hid hown4; have HB := Lib.hid hb4; clear hown4 hgr4 hb4 tok4 _t4)
    go_ret
    exact ⟨_, rfl, HO.out, HB.out.from (Ext.alloc _ _)⟩
set_option maxRecDepth 100000 in
set_option maxHeartbeats 2000000 in
theorem cloneDot (cs : List Value) (n cap : Nat) (A : Option Addr) (w : World) (h : Cells w A cs) (hl : cs.length = n * 2) (h1 : ∀ u ∈ cs, u.oneCell' = true) (hn : n ≤ 10000000000) :
    Calls Tryz.prog 80 #[.slice A n cap] w fun e w' => ∃ v, e = .returned v ∧ w'.ownsRow w.heap.size 79 2 v n cs ∧ Ext w w' := by
  have EQ := fun (w : World) (a : Option Addr) (n c : Nat) => Lib.run_eql_slice_nil (P := Tryz.prog) w 80 79 a n c 0 0 Tryz.underlying80
  cases A with
  | none =>
    have hc : cs = [] := Classical.byContradiction fun hc => by obtain ⟨g, o, hA, _⟩ := h hc; cases hA
    subst hc
    have hn0 : n = 0 := by simp at hl; omega
    subst hn0
    go_enter Tryz.func80, Tryz.ntmps80
    go_wp2
    go_ret
    exact ⟨_, rfl, World.ownsRow_nil _ _ _ _, Ext.refl _⟩
  | some a =>
    have HH := Lib.hid h
    clear h
    have tok4 : True := trivial
    go_enter Tryz.func80, Tryz.ntmps80
    go_wp2_with (have _t4 := tok4; at_builtin; refine app_cells appDot rfl _ _ rfl w.heap.size _ 0 [] rfl (own_emptyN _ _ _ (Nat.le_refl _)) (some a) n cap cs rfl (by omega) (HH.out.ext (Ext.alloc _ _)) h1 (by omega) (by simp) ?_; intro v4 w4 hown4 hgr4 hb4; rw [Nat.zero_add, List.nil_append] at hown4; have HO := Lib.hid hown4; have HB := Lib.hid hb4; clear hown4 hgr4 hb4 tok4 _t4)
    go_ret
    exact ⟨_, rfl, HO.out, HB.out.from (Ext.alloc _ _)⟩
set_option maxRecDepth 100000 in
set_option maxHeartbeats 2000000 in
theorem cloneStr (cs : List Value) (n cap : Nat) (A : Option Addr) (w : World) (h : Cells w A cs) (hl : cs.length = n * 1) (h1 : ∀ u ∈ cs, u.oneCell' = true) (hn : n ≤ 10000000000) :
    Calls Tryz.prog 96 #[.slice A n cap] w fun e w' => ∃ v, e = .returned v ∧ w'.ownsRow w.heap.size 9 1 v n cs ∧ Ext w w' := by
  have EQ := fun (w : World) (a : Option Addr) (n c : Nat) => Lib.run_eql_slice_nil (P := Tryz.prog) w 57 9 a n c 0 0 Tryz.underlying57
  cases A with
  | none =>
    have hc : cs = [] := Classical.byContradiction fun hc => by obtain ⟨g, o, hA, _⟩ := h hc; cases hA
    subst hc
    have hn0 : n = 0 := by simp at hl; omega
    subst hn0
    go_enter Tryz.func96, Tryz.ntmps96
    go_wp2
    go_ret
    exact ⟨_, rfl, World.ownsRow_nil _ _ _ _, Ext.refl _⟩
  | some a =>
    have HH := Lib.hid h
    clear h
    have tok4 : True := trivial
    go_enter Tryz.func96, Tryz.ntmps96
    go_wp2_with (have _t4 := tok4; at_builtin; refine app_cells appStr rfl _ _ rfl w.heap.size _ 0 [] rfl (own_emptyN _ _ _ (Nat.le_refl _)) (some a) n cap cs rfl (by omega) (HH.out.ext (Ext.alloc _ _)) h1 (by omega) (by simp) ?_; intro v4 w4 hown4 hgr4 hb4; rw [Nat.zero_add, List.nil_append] at hown4; have HO := Lib.hid hown4; have HB := Lib.hid hb4; clear hown4 hgr4 hb4 tok4 _t4)
    go_ret
    exact ⟨_, rfl, HO.out, HB.out.from (Ext.alloc _ _)⟩
set_option maxRecDepth 100000 in
set_option maxHeartbeats 2000000 in
theorem clonePtr (cs : List Value) (n cap : Nat) (A : Option Addr) (w : World) (h : Cells w A cs) (hl : cs.length = n * 1) (h1 : ∀ u ∈ cs, u.oneCell' = true) (hn : n ≤ 10000000000) :
    Calls Tryz.prog 97 #[.slice A n cap] w fun e w' => ∃ v, e = .returned v ∧ w'.ownsRow w.heap.size 86 1 v n cs ∧ Ext w w' := by
  have EQ := fun (w : World) (a : Option Addr) (n c : Nat) => Lib.run_eql_slice_nil (P := Tryz.prog) w 105 86 a n c 0 0 Tryz.underlying105
  cases A with
  | none =>
    have hc : cs = [] := Classical.byContradiction fun hc => by obtain ⟨g, o, hA, _⟩ := h hc; cases hA
    subst hc
    have hn0 : n = 0 := by simp at hl; omega
    subst hn0
    go_enter Tryz.func97, Tryz.ntmps97
    go_wp2
    go_ret
    exact ⟨_, rfl, World.ownsRow_nil _ _ _ _, Ext.refl _⟩
  | some a =>
    have HH := Lib.hid h
    clear h
    have tok4 : True := trivial
    go_enter Tryz.func97, Tryz.ntmps97
    go_wp2_with (have _t4 := tok4; at_builtin; refine app_cells appPtr rfl _ _ rfl w.heap.size _ 0 [] rfl (own_emptyN _ _ _ (Nat.le_refl _)) (some a) n cap cs rfl (by omega) (HH.out.ext (Ext.alloc _ _)) h1 (by omega) (by simp) ?_; intro v4 w4 hown4 hgr4 hb4; rw [Nat.zero_add, List.nil_append] at hown4; have HO := Lib.hid hown4; have HB := Lib.hid hb4; clear hown4 hgr4 hb4 tok4 _t4)
    go_ret
    exact ⟨_, rfl, HO.out, HB.out.from (Ext.alloc _ _)⟩
end Go.Proofs.YtedjiaenodechaaGreatDoor
