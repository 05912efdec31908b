/- Walks: nodes' digests. Walks: slices.Clone. Walks: a node without what is deleted; an empty one; two nodes. Walks: versions that nobody else has. Walks: searching a row of texts. Walks: slices.Delete of one. -/
import Derived.WalkLawsBesides
import Derived.Deep.RegionLaw
import Derived.Test.YtmlfnidckfeebaaGreatDoorRF011
namespace Go.Proofs.YtmlfnidckfeebaaGreatDoor
open Go.RowKit Go.Shelf
attribute [local go_sem] yUpon strOf_toList
theorem Sp.nbytes_len (n : Sp.Node) (h : KidsOk n.2) (_hc : (Sp.nbytes n).2 = 0) : (Sp.nbytes n).1.length ≤ 4000000000 := by
  unfold Sp.nbytes at *
  by_cases h0 : Sp.ncheck n = 0
  · rw [if_neg (by simpa using h0)] at *
    obtain ⟨_, h2, _⟩ := Sp.ncheck_ok h0
    have h1 := Sp.wleaf_len n.1 ([], 0)
    have h3 := Sp.wnum_len (n.2.length : Int) (Sp.wleaf n.1 ([], 0))
    have h4 := Sp.wkids_len 1000000 32 n.2 (Sp.wnum n.2.length (Sp.wleaf n.1 ([], 0))) (fun k hk => by have := h k hk; omega)
    have h5 : n.2.length * (1000000 + 32 + 20) ≤ 128 * (1000000 + 32 + 20) := Nat.mul_le_mul_right _ h2
    have h6 : (Sp.wdone (Sp.wnode n)).1.length ≤ (Sp.wnode n).1.length := by unfold Sp.wdone; split <;> simp
    unfold Sp.wnode at *
    simp at h1
    omega
  · rw [if_pos (by simpa using h0)]; simp
set_option maxRecDepth 100000 in
set_option maxHeartbeats 4000000 in
theorem nsum_calls (n : Sp.Node) (A B : Option Addr) (cap cap' : Nat) (w : World) (hV : Vers w A n.1) (hK : Kids w B n.2)  (K : KeysAt w 2) :
    Calls Tryz.prog 219 #[nodeV A n.1.length cap B n.2.length cap'] w fun e w' => e = .returned (digV (Sp.nsum n)) ∧ Ext w w' := by
  have hsl := Sp.nsum_len n
  have hds := digC_size (Sp.nsum n)
  obtain ⟨arr, ha⟩ : ∃ arr, arr = digC (Sp.nsum n) := ⟨_, rfl⟩
  have HA := Lib.hid ha
  rw [← ha] at hds
  have w1 : arr.all (·.oneCell') = true := by rw [ha]; exact all_oneCell_toArray (bytes_one _)
  clear ha
  rw [show digV (Sp.nsum n) = .agg (digC (Sp.nsum n)) from rfl, ← HA.out]
  have tok2 : True := trivial
  obtain ⟨W0, hW0⟩ : ∃ W0, W0 = w.alloc (.cells (nodeA A n.1.length cap B n.2.length cap') 116) := ⟨_, rfl⟩
  have E0 := Lib.hid (show Ext w W0 by rw [hW0]; exact Ext.alloc _ _)
  have X0 := Lib.hid (show isBlk W0 w.heap.size 116 (nodeA A n.1.length cap B n.2.length cap') by rw [hW0]; exact box_at _ _ _)
  have HW := Lib.hid (show w.alloc (.cells #[.slice A n.1.length cap, .slice B n.2.length cap'] 116) = W0 from hW0.symm)
  have SZ := Lib.hid (show W0.heap.size = w.heap.size + 1 by rw [hW0]; simp)
  have CB := Lib.hid fun W (h : Ext W0 W) => nbytes_calls n A B cap cap' W (hV.ext (E0.out.trans h)) (hK.ext (E0.out.trans h)) 
  clear hW0
  go_enter Tryz.func219, Tryz.ntmps219
  go_wp2_with (have _t2 := tok2; ((with_reducible refine at_alloc (t := 36) rfl ?_); refine box_new rfl (cs := zero32) (t := 36) (by first | (go_simp; done) | (go_simp; rfl)) ?_; intro g2 w2 hg2 hx2 hb2; rw [HW.out] at hb2 hg2; have f0 := ((X0.out.below hb2).cell 0).trans rfl; have f1 := ((X0.out.below hb2).cell 1).trans rfl; have H2 := Lib.hid hx2; have B2 := Lib.hid hb2; have GG2 := Lib.hid hg2; clear tok2 _t2 hx2 hb2 hg2))
  refine (CB.out _ B2.out).mono ?_
  rintro e w3 ⟨rfl, hb3⟩
  have H3 := Lib.hid (H2.out.below hb3)
  have E3 := Lib.hid (E0.out.trans (Ext.trans B2.out hb3))
  clear hb3 f0 f1
  by_cases hc : (Sp.nbytes n).2 = 0
  · rw [hc]
    have F := Lib.hid (show Sp.sha (Sp.nbytes n).1 = Sp.nsum n from (if_neg (by simpa using hc)).symm)
    have hlen : (Sp.nbytes n).1.length ≤ 4000000000 := Sp.nbytes_len n hK.2 hc
    have SO := Lib.hid (sha_calls (Sp.nbytes n).1 w3 hlen (K.ext E3.out))
    rw [F.out, show digV (Sp.nsum n) = .agg (digC (Sp.nsum n)) from rfl, ← HA.out] at SO
    go_wp2_with fail
    refine SO.out.mono ?_
    rintro e w4 ⟨rfl, hb4⟩
    have H4 := Lib.hid (H3.out.below hb4)
    have E4 := Lib.hid (E3.out.trans hb4)
    clear hb4
    go_wp2_with ((with_reducible refine at_store (t := 36) rfl ?_); refine wpList_store_row rfl _ _ _ rfl g2 arr rfl rfl 36 _ H4.out (by rw [hds, hsl]; kernel_rfl) (by rw [hds, hsl]; rfl) w1 ?_)
    refine bodyPost_ret (results_cell_row rfl _ _ g2 36 arr (0, 0) _ rfl (setRow_heap _ _ _ _ _ _ H4.out) Tryz.underlying36 rfl (by rw [hds, hsl]; kernel_rfl)) rfl ?_
    exact ⟨rfl, below_setRow E4.out (by have := GG2.out; have := SZ.out; omega) _⟩
  · have F := Lib.hid (show arr = zero32 by rw [HA.out, show Sp.nsum n = List.replicate 32 0 from if_pos (by simpa using hc)])
    go_wp2_with ((with_reducible refine at_store (t := 36) rfl ?_); refine wpList_store_row rfl _ _ _ rfl g2 zero32 rfl rfl 36 _ H3.out (by kernel_rfl) (by kernel_rfl) (by kernel_rfl) ?_)
    refine bodyPost_ret (results_cell_row rfl _ _ g2 36 zero32 (0, 0) _ rfl (setRow_heap _ _ _ _ _ _ H3.out) Tryz.underlying36 rfl (by kernel_rfl)) rfl ?_
    exact ⟨by rw [F.out], below_setRow E3.out (by have := GG2.out; have := SZ.out; omega) _⟩
set_option maxRecDepth 100000 in
set_option maxHeartbeats 4000000 in
theorem rnsum_calls (n : Sp.Node) (A B : Option Addr) (cap cap' : Nat) (w : World) (hV : Vers w A n.1) (hK : Kids w B n.2) (hl : n.1.length ≤ 1000) (hd : ∀ v ∈ n.1, v.data.length ≤ 100000 ∧ v.past.length ≤ 100000) (hk : n.2.length ≤ 1000) (K : KeysAt w 0) :
    Calls Tryz.prog 217 #[nodeV A n.1.length cap B n.2.length cap'] w fun e w' => e = .returned (digV (Sp.nsum n)) ∧ Ext w w' := by
  have hsl := Sp.nsum_len n
  have hds := digC_size (Sp.nsum n)
  obtain ⟨arr, ha⟩ : ∃ arr, arr = digC (Sp.nsum n) := ⟨_, rfl⟩
  have HA := Lib.hid ha
  rw [← ha] at hds
  have w1 : arr.all (·.oneCell') = true := by rw [ha]; exact all_oneCell_toArray (bytes_one _)
  clear ha
  rw [show digV (Sp.nsum n) = .agg (digC (Sp.nsum n)) from rfl, ← HA.out]
  have tok2 : True := trivial
  obtain ⟨W0, hW0⟩ : ∃ W0, W0 = w.alloc (.cells (nodeA A n.1.length cap B n.2.length cap') 116) := ⟨_, rfl⟩
  have E0 := Lib.hid (show Ext w W0 by rw [hW0]; exact Ext.alloc _ _)
  have X0 := Lib.hid (show isBlk W0 w.heap.size 116 (nodeA A n.1.length cap B n.2.length cap') by rw [hW0]; exact box_at _ _ _)
  have HW := Lib.hid (show w.alloc (.cells #[.slice A n.1.length cap, .slice B n.2.length cap'] 116) = W0 from hW0.symm)
  have SZ := Lib.hid (show W0.heap.size = w.heap.size + 1 by rw [hW0]; simp)
  have CB := Lib.hid fun W (h : Ext W0 W) => rnbytes_calls n A B cap cap' W (hV.ext (E0.out.trans h)) (hK.ext (E0.out.trans h)) hl hd hk
  clear hW0
  go_enter Tryz.func217, Tryz.ntmps217
  go_wp2_with (have _t2 := tok2; ((with_reducible refine at_alloc (t := 36) rfl ?_); refine box_new rfl (cs := zero32) (t := 36) (by first | (go_simp; done) | (go_simp; rfl)) ?_; intro g2 w2 hg2 hx2 hb2; rw [HW.out] at hb2 hg2; have f0 := ((X0.out.below hb2).cell 0).trans rfl; have f1 := ((X0.out.below hb2).cell 1).trans rfl; have H2 := Lib.hid hx2; have B2 := Lib.hid hb2; have GG2 := Lib.hid hg2; clear tok2 _t2 hx2 hb2 hg2))
  refine (CB.out _ B2.out).mono ?_
  rintro e w3 ⟨rfl, hb3⟩
  have H3 := Lib.hid (H2.out.below hb3)
  have E3 := Lib.hid (E0.out.trans (Ext.trans B2.out hb3))
  clear hb3 f0 f1
  by_cases hc : (Sp.nbytes n).2 = 0
  · rw [hc]
    have F := Lib.hid (show Sp.sha (Sp.nbytes n).1 = Sp.nsum n from (if_neg (by simpa using hc)).symm)
    have hlen : (Sp.nbytes n).1.length ≤ 4000000000 := Sp.nbytes_len n hK.2 hc
    have SO := Lib.hid (rsha_calls (Sp.nbytes n).1 w3 hlen (K.ext E3.out))
    rw [F.out, show digV (Sp.nsum n) = .agg (digC (Sp.nsum n)) from rfl, ← HA.out] at SO
    go_wp2_with fail
    refine SO.out.mono ?_
    rintro e w4 ⟨rfl, hb4⟩
    have H4 := Lib.hid (H3.out.below hb4)
    have E4 := Lib.hid (E3.out.trans hb4)
    clear hb4
    go_wp2_with ((with_reducible refine at_store (t := 36) rfl ?_); refine wpList_store_row rfl _ _ _ rfl g2 arr rfl rfl 36 _ H4.out (by rw [hds, hsl]; kernel_rfl) (by rw [hds, hsl]; rfl) w1 ?_)
    refine bodyPost_ret (results_cell_row rfl _ _ g2 36 arr (0, 0) _ rfl (setRow_heap _ _ _ _ _ _ H4.out) Tryz.underlying36 rfl (by rw [hds, hsl]; kernel_rfl)) rfl ?_
    exact ⟨rfl, below_setRow E4.out (by have := GG2.out; have := SZ.out; omega) _⟩
  · have F := Lib.hid (show arr = zero32 by rw [HA.out, show Sp.nsum n = List.replicate 32 0 from if_pos (by simpa using hc)])
    go_wp2_with ((with_reducible refine at_store (t := 36) rfl ?_); refine wpList_store_row rfl _ _ _ rfl g2 zero32 rfl rfl 36 _ H3.out (by kernel_rfl) (by kernel_rfl) (by kernel_rfl) ?_)
    refine bodyPost_ret (results_cell_row rfl _ _ g2 36 zero32 (0, 0) _ rfl (setRow_heap _ _ _ _ _ _ H3.out) Tryz.underlying36 rfl (by kernel_rfl)) rfl ?_
    exact ⟨by rw [F.out], below_setRow E3.out (by have := GG2.out; have := SZ.out; omega) _⟩
end Go.Proofs.YtmlfnidckfeebaaGreatDoor
namespace Go.Proofs.YtmlfnidckfeebaaGreatDoor
open Go.RowKit Go.Shelf
attribute [local go_sem] yUpon
theorem own_emptyN {k : Nat} (w : World) (B : Nat) (t : TypeId) (h : B ≤ w.heap.size) : (w.alloc (.cells #[] t)).ownsRow B t k (.slice (some ⟨w.heap.size, 0, none⟩) 0 0) 0 [] :=
  World.ownsRow_lit w #[] 0 h (by unfold maxLen; omega) (by simp)
theorem appKid : AppStat Tryz.prog 114 268 33 48 := by
  refine ⟨Tryz.underlying114, by decide, by decide, ?_⟩
  obtain ⟨i0, hi, hz0, hz1, hz2⟩ := info_parts (show (Tryz.prog.info? 268).map (fun i => (i.zero, i.size, i.bytes)) = some (some (.agg kid0), 33, 48) by kernel_rfl)
  exact ⟨i0, _, hi, hz0, hz1, hz2, by kernel_rfl⟩
theorem appDot : AppStat Tryz.prog 69 68 2 16 := by
  refine ⟨Tryz.underlying69, by decide, by decide, ?_⟩
  obtain ⟨i0, hi, hz0, hz1, hz2⟩ := info_parts (show (Tryz.prog.info? 68).map (fun i => (i.zero, i.size, i.bytes)) = some (some (.agg #[.int .i64 0, .int .i64 0]), 2, 16) by kernel_rfl)
  exact ⟨i0, _, hi, hz0, hz1, hz2, rfl⟩
theorem appStr : AppStat Tryz.prog 32 9 1 16 := by
  refine ⟨Tryz.underlying32, by decide, by decide, ?_⟩
  obtain ⟨i0, hi, hz0, hz1, hz2⟩ := info_parts (show (Tryz.prog.info? 9).map (fun i => (i.zero, i.size, i.bytes)) = some (some (.string ⟨#[]⟩), 1, 16) by kernel_rfl)
  exact ⟨i0, _, hi, hz0, hz1, hz2, rfl⟩
theorem appPtr : AppStat Tryz.prog 120 123 1 8 := by
  refine ⟨Tryz.underlying120, by decide, by decide, ?_⟩
  obtain ⟨i0, hi, hz0, hz1, hz2⟩ := info_parts (show (Tryz.prog.info? 123).map (fun i => (i.zero, i.size, i.bytes)) = some (some (.pointer none), 1, 8) by kernel_rfl)
  exact ⟨i0, _, hi, hz0, hz1, hz2, rfl⟩
set_option maxRecDepth 100000 in
set_option maxHeartbeats 2000000 in
theorem cloneKid (cs : List Value) (n cap : Nat) (A : Option Addr) (w : World) (h : Cells w A cs) (hl : cs.length = n * 33) (h1 : ∀ u ∈ cs, u.oneCell' = true) (hn : n ≤ 10000000000) :
    Calls Tryz.prog 263 #[.slice A n cap] w fun e w' => ∃ v, e = .returned v ∧ w'.ownsRow w.heap.size 268 33 v n cs ∧ Ext w w' := by
  have EQ := fun (w : World) (a : Option Addr) (n c : Nat) => Lib.run_eql_slice_nil (P := Tryz.prog) w 114 268 a n c 0 0 Tryz.underlying114
  cases A with
  | none =>
    have hc : cs = [] := Classical.byContradiction fun hc => by obtain ⟨g, o, hA, _⟩ := h hc; cases hA
    subst hc
    have hn0 : n = 0 := by simp at hl; omega
    subst hn0
    go_enter Tryz.func263, Tryz.ntmps263
    go_wp2
    go_ret
    exact ⟨_, rfl, World.ownsRow_nil _ _ _ _, Ext.refl _⟩
  | some a =>
    have HH := Lib.hid h
    clear h
    have tok4 : True := trivial
    go_enter Tryz.func263, Tryz.ntmps263
    go_wp2_with (have _t4 := tok4; at_builtin; refine app_cells appKid rfl _ _ rfl w.heap.size _ 0 [] rfl (own_emptyN _ _ _ (Nat.le_refl _)) (some a) n cap cs rfl (by omega) (HH.out.ext (Ext.alloc _ _)) h1 (by omega) (by simp) ?_; intro v4 w4 hown4 hgr4 hb4; rw [Nat.zero_add, List.nil_append] at hown4; have HO := Lib.hid hown4; have HB := Lib.hid hb4; clear hown4 hgr4 hb4 tok4 _t4)
    go_ret
    exact ⟨_, rfl, HO.out, HB.out.from (Ext.alloc _ _)⟩
set_option maxRecDepth 100000 in
set_option maxHeartbeats 2000000 in
theorem cloneVer (cs : List Value) (n cap : Nat) (A : Option Addr) (w : World) (h : Cells w A cs) (hl : cs.length = n * 5) (h1 : ∀ u ∈ cs, u.oneCell' = true) (hn : n ≤ 10000000000) :
    Calls Tryz.prog 153 #[.slice A n cap] w fun e w' => ∃ v, e = .returned v ∧ w'.ownsRow w.heap.size 71 5 v n cs ∧ Ext w w' := by
  have EQ := fun (w : World) (a : Option Addr) (n c : Nat) => Lib.run_eql_slice_nil (P := Tryz.prog) w 41 71 a n c 0 0 Tryz.underlying41
  cases A with
  | none =>
    have hc : cs = [] := Classical.byContradiction fun hc => by obtain ⟨g, o, hA, _⟩ := h hc; cases hA
    subst hc
    have hn0 : n = 0 := by simp at hl; omega
    subst hn0
    go_enter Tryz.func153, Tryz.ntmps153
    go_wp2
    go_ret
    exact ⟨_, rfl, World.ownsRow_nil _ _ _ _, Ext.refl _⟩
  | some a =>
    have HH := Lib.hid h
    clear h
    have tok4 : True := trivial
    go_enter Tryz.func153, Tryz.ntmps153
    go_wp2_with (have _t4 := tok4; at_builtin; refine app_cells appVer rfl _ _ rfl w.heap.size _ 0 [] rfl (own_emptyN _ _ _ (Nat.le_refl _)) (some a) n cap cs rfl (by omega) (HH.out.ext (Ext.alloc _ _)) h1 (by omega) (by simp) ?_; intro v4 w4 hown4 hgr4 hb4; rw [Nat.zero_add, List.nil_append] at hown4; have HO := Lib.hid hown4; have HB := Lib.hid hb4; clear hown4 hgr4 hb4 tok4 _t4)
    go_ret
    exact ⟨_, rfl, HO.out, HB.out.from (Ext.alloc _ _)⟩
set_option maxRecDepth 100000 in
set_option maxHeartbeats 2000000 in
theorem cloneDot (cs : List Value) (n cap : Nat) (A : Option Addr) (w : World) (h : Cells w A cs) (hl : cs.length = n * 2) (h1 : ∀ u ∈ cs, u.oneCell' = true) (hn : n ≤ 10000000000) :
    Calls Tryz.prog 154 #[.slice A n cap] w fun e w' => ∃ v, e = .returned v ∧ w'.ownsRow w.heap.size 68 2 v n cs ∧ Ext w w' := by
  have EQ := fun (w : World) (a : Option Addr) (n c : Nat) => Lib.run_eql_slice_nil (P := Tryz.prog) w 69 68 a n c 0 0 Tryz.underlying69
  cases A with
  | none =>
    have hc : cs = [] := Classical.byContradiction fun hc => by obtain ⟨g, o, hA, _⟩ := h hc; cases hA
    subst hc
    have hn0 : n = 0 := by simp at hl; omega
    subst hn0
    go_enter Tryz.func154, Tryz.ntmps154
    go_wp2
    go_ret
    exact ⟨_, rfl, World.ownsRow_nil _ _ _ _, Ext.refl _⟩
  | some a =>
    have HH := Lib.hid h
    clear h
    have tok4 : True := trivial
    go_enter Tryz.func154, Tryz.ntmps154
    go_wp2_with (have _t4 := tok4; at_builtin; refine app_cells appDot rfl _ _ rfl w.heap.size _ 0 [] rfl (own_emptyN _ _ _ (Nat.le_refl _)) (some a) n cap cs rfl (by omega) (HH.out.ext (Ext.alloc _ _)) h1 (by omega) (by simp) ?_; intro v4 w4 hown4 hgr4 hb4; rw [Nat.zero_add, List.nil_append] at hown4; have HO := Lib.hid hown4; have HB := Lib.hid hb4; clear hown4 hgr4 hb4 tok4 _t4)
    go_ret
    exact ⟨_, rfl, HO.out, HB.out.from (Ext.alloc _ _)⟩
set_option maxRecDepth 100000 in
set_option maxHeartbeats 2000000 in
theorem cloneStr (cs : List Value) (n cap : Nat) (A : Option Addr) (w : World) (h : Cells w A cs) (hl : cs.length = n * 1) (h1 : ∀ u ∈ cs, u.oneCell' = true) (hn : n ≤ 10000000000) :
    Calls Tryz.prog 173 #[.slice A n cap] w fun e w' => ∃ v, e = .returned v ∧ w'.ownsRow w.heap.size 9 1 v n cs ∧ Ext w w' := by
  have EQ := fun (w : World) (a : Option Addr) (n c : Nat) => Lib.run_eql_slice_nil (P := Tryz.prog) w 32 9 a n c 0 0 Tryz.underlying32
  cases A with
  | none =>
    have hc : cs = [] := Classical.byContradiction fun hc => by obtain ⟨g, o, hA, _⟩ := h hc; cases hA
    subst hc
    have hn0 : n = 0 := by simp at hl; omega
    subst hn0
    go_enter Tryz.func173, Tryz.ntmps173
    go_wp2
    go_ret
    exact ⟨_, rfl, World.ownsRow_nil _ _ _ _, Ext.refl _⟩
  | some a =>
    have HH := Lib.hid h
    clear h
    have tok4 : True := trivial
    go_enter Tryz.func173, Tryz.ntmps173
    go_wp2_with (have _t4 := tok4; at_builtin; refine app_cells appStr rfl _ _ rfl w.heap.size _ 0 [] rfl (own_emptyN _ _ _ (Nat.le_refl _)) (some a) n cap cs rfl (by omega) (HH.out.ext (Ext.alloc _ _)) h1 (by omega) (by simp) ?_; intro v4 w4 hown4 hgr4 hb4; rw [Nat.zero_add, List.nil_append] at hown4; have HO := Lib.hid hown4; have HB := Lib.hid hb4; clear hown4 hgr4 hb4 tok4 _t4)
    go_ret
    exact ⟨_, rfl, HO.out, HB.out.from (Ext.alloc _ _)⟩
set_option maxRecDepth 100000 in
set_option maxHeartbeats 2000000 in
theorem clonePtr (cs : List Value) (n cap : Nat) (A : Option Addr) (w : World) (h : Cells w A cs) (hl : cs.length = n * 1) (h1 : ∀ u ∈ cs, u.oneCell' = true) (hn : n ≤ 10000000000) :
    Calls Tryz.prog 174 #[.slice A n cap] w fun e w' => ∃ v, e = .returned v ∧ w'.ownsRow w.heap.size 123 1 v n cs ∧ Ext w w' := by
  have EQ := fun (w : World) (a : Option Addr) (n c : Nat) => Lib.run_eql_slice_nil (P := Tryz.prog) w 120 123 a n c 0 0 Tryz.underlying120
  cases A with
  | none =>
    have hc : cs = [] := Classical.byContradiction fun hc => by obtain ⟨g, o, hA, _⟩ := h hc; cases hA
    subst hc
    have hn0 : n = 0 := by simp at hl; omega
    subst hn0
    go_enter Tryz.func174, Tryz.ntmps174
    go_wp2
    go_ret
    exact ⟨_, rfl, World.ownsRow_nil _ _ _ _, Ext.refl _⟩
  | some a =>
    have HH := Lib.hid h
    clear h
    have tok4 : True := trivial
    go_enter Tryz.func174, Tryz.ntmps174
    go_wp2_with (have _t4 := tok4; at_builtin; refine app_cells appPtr rfl _ _ rfl w.heap.size _ 0 [] rfl (own_emptyN _ _ _ (Nat.le_refl _)) (some a) n cap cs rfl (by omega) (HH.out.ext (Ext.alloc _ _)) h1 (by omega) (by simp) ?_; intro v4 w4 hown4 hgr4 hb4; rw [Nat.zero_add, List.nil_append] at hown4; have HO := Lib.hid hown4; have HB := Lib.hid hb4; clear hown4 hgr4 hb4 tok4 _t4)
    go_ret
    exact ⟨_, rfl, HO.out, HB.out.from (Ext.alloc _ _)⟩
theorem step_call {P : Program} {ops : Array Oper} {o : Oper} {a : Act} {w w0 : World} {K : Act → World → Prop} {Q : Exit → Act → World → Prop} {E : Prop} {R : Ending → World → Prop} (hg : o.guard = none) (f : FuncId) (args : Array Value)
    (hrun : (execOp a.eval o).run P w = .ok (.enter f args) w0) (hC : Calls P f args w0 R) (hK : ∀ e w', R e w' → ∃ v, e = .returned v ∧ K (a.put o.dst v) w') :
    if Region.wanted o (yielded ops a.tmps) = true then Oper.wp P o a w K Q else E := by
  have hw : Region.wanted o (yielded ops a.tmps) = true := by simp [Region.wanted, hg]
  rw [if_pos hw]
  unfold Oper.wp
  rw [hrun]
  exact hC.mono (fun e w' h => by obtain ⟨v, rfl, hk⟩ := hK e w' h; exact hk)
def isSl : Value → Bool
  | .slice _ _ _ => true
  | _ => false
theorem Cells.apart {w w' : World} {g : Nat} {t : TypeId} {zs : Array Value} {A : Option Addr} {cs : List Value} (h : Cells w A cs) (e : Only g w w') (hx : isBlk w g t zs) (hs : ∀ z ∈ zs.toList, isSl z = true) (h0 : ∀ u, cs[0]? = some u → isSl u = false) : Cells w' A cs := fun hn => by
  obtain ⟨g1, o, hA, hc⟩ := h hn
  refine Cells.only (w := w) (g := g) (fun _ => ⟨g1, o, hA, hc⟩) (fun a ha => ?_) e hn
  rw [hA] at ha
  cases ha
  show g1 ≠ g
  rintro rfl
  obtain ⟨u, r, rfl⟩ := List.exists_cons_of_ne_nil hn
  have h1 := hc 0 u rfl
  rw [hx.cell (o + 0)] at h1
  have h2 := hs u (by rw [← Array.getElem?_toList] at h1; exact List.mem_of_getElem? h1)
  rw [h0 u rfl] at h2
  cases h2
theorem Vers.apart {w w' : World} {g : Nat} {t : TypeId} {zs : Array Value} {A : Option Addr} {l : List Sp.Ver} (h : Vers w A l) (e : Only g w w') (hx : isBlk w g t zs) (hs : ∀ z ∈ zs.toList, isSl z = true) : Vers w' A l := by
  obtain ⟨m, h1, h2, h3⟩ := h
  refine ⟨m, h1, Cells.apart h2 e hx hs ?_, fun x hm => ⟨Cells.apart (h3 x hm).1 e hx hs ?_, (h3 x hm).2⟩⟩
  · intro u hu
    cases m with
    | nil => cases hu
    | cons x r => cases hu; rfl
  · intro u hu
    cases hp : x.2.2.past with
    | nil => rw [hp] at hu; cases hu
    | cons d r => rw [hp] at hu; cases hu; rfl
theorem Kids.apart {w w' : World} {g : Nat} {t : TypeId} {zs : Array Value} {A : Option Addr} {l : List Sp.Kid} (h : Kids w A l) (e : Only g w w') (hx : isBlk w g t zs) (hs : ∀ z ∈ zs.toList, isSl z = true) : Kids w' A l := by
  refine ⟨Cells.apart h.1 e hx hs ?_, h.2⟩
  intro u hu
  cases l with
  | nil => cases hu
  | cons x r => cases hu; rfl
theorem kids_one : ∀ (l : List Sp.Kid), ∀ u ∈ kidsC l, u.oneCell' = true
  | [], u, h => by cases h
  | k :: r, u, h => by
    rcases List.mem_append.1 h with h | h
    · unfold kidL at h
      rcases List.mem_cons.1 h with rfl | h
      · rfl
      · exact bytes_one _ u h
    · exact kids_one r u h
set_option maxRecDepth 100000 in
set_option maxHeartbeats 4000000 in
theorem nempty_calls (n : Sp.Node) (A B : Option Addr) (cap cap' : Nat) (w : World) :
    Calls Tryz.prog 222 #[nodeV A n.1.length cap B n.2.length cap'] w fun e w' => e = .returned (.bool (decide (n.1 = [] ∧ n.2 = []))) ∧ Ext w w' := by
  go_enter Tryz.func222, Tryz.ntmps222
  by_cases h1 : n.1 = []
  · by_cases h2 : n.2 = []
    · go_wp2
      go_ret
      exact ⟨ret_bool (by simp [h1, h2]), Ext.alloc _ _⟩
    · go_wp2
      go_ret
      exact ⟨ret_bool (by simp [h1, h2]), Ext.alloc _ _⟩
  · have e1 : ((n.1.length : Int) == 0) = false := by rw [beq_eq_false_iff_ne]; intro h; exact h1 (List.eq_nil_of_length_eq_zero (by omega))
    go_wp2
    go_ret
    exact ⟨ret_bool (by simp [h1]), Ext.alloc _ _⟩
set_option maxRecDepth 100000 in
set_option maxHeartbeats 4000000 in
theorem nseen_calls (n : Sp.Node) (A B : Option Addr) (cap cap' : Nat) (w : World) (hV : Vers w A n.1) (hK : Kids w B n.2) (hl : n.1.length ≤ 1000000) (hk : n.2.length ≤ 10000000) :
    Calls Tryz.prog 221 #[nodeV A n.1.length cap B n.2.length cap'] w fun e w' => ∃ A2 c2 B2 c3, e = .returned (nodeV A2 (Sp.live n.1).length c2 B2 n.2.length c3) ∧ Vers w' A2 (Sp.live n.1) ∧ Kids w' B2 n.2 ∧ Ext w w' := by
  obtain ⟨W0, hW0⟩ : ∃ W0, W0 = w.alloc (.cells (nodeA A n.1.length cap B n.2.length cap') 116) := ⟨_, rfl⟩
  have E0 := Lib.hid (show Ext w W0 by rw [hW0]; exact Ext.alloc _ _)
  have X0 := Lib.hid (show isBlk W0 w.heap.size 116 (nodeA A n.1.length cap B n.2.length cap') by rw [hW0]; exact box_at _ _ _)
  have HW := Lib.hid (show w.alloc (.cells #[.slice A n.1.length cap, .slice B n.2.length cap'] 116) = W0 from hW0.symm)
  have SZ := Lib.hid (show W0.heap.size = w.heap.size + 1 by rw [hW0]; simp)
  have LV := Lib.hid fun W (h : Ext W0 W) => live_calls n.1 A cap W (hV.ext (E0.out.trans h)) hl
  have CL := Lib.hid fun W (h : Ext W0 W) => cloneKid (kidsC n.2) n.2.length cap' B W (hK.ext (E0.out.trans h)).1 (kidsC_len n.2 hK.2) (kids_one n.2) (by omega)
  have tok2 : True := trivial
  clear hW0
  go_enter Tryz.func221, Tryz.ntmps221
  go_wp2_with (have _t2 := tok2; ((with_reducible refine at_alloc (t := 116) rfl ?_); refine box_new rfl (cs := #[.slice none 0 0, .slice none 0 0]) (t := 116) (by first | (go_simp; done) | (go_simp; rfl)) ?_; intro g2 w2 hg2 hx2 hb2; rw [HW.out] at hb2 hg2; have H2 := Lib.hid hx2; have B2 := Lib.hid hb2; have GG2 := Lib.hid hg2; clear tok2 _t2 hx2 hb2 hg2))
  have f0 := ((X0.out.below B2.out).cell 0).trans rfl
  have f1 := ((X0.out.below B2.out).cell 1).trans rfl
  have tokL : True := trivial
  go_region_law (first
    | (have _tL := tokL; refine step_call rfl 170 #[.slice A n.1.length cap] (by go_simp) (LV.out _ (show Ext W0 w2 from B2.out).drew) ?_; rintro e w3 ⟨v3, rfl, hO3, hb3⟩; obtain ⟨A2, c2, rfl, hV2⟩ := hO3.read; have B3 := Lib.hid (show Ext w2 w3 from (show Ext w2 w2.drew from (Below.refl _ _).drew).trans hb3); have D3 := Lib.hid hV2; have f1 := ((X0.out.below (Ext.trans B2.out B3.out)).cell 1).trans rfl; clear hO3 hb3 hV2 tokL _tL; refine ⟨_, rfl, ?_⟩)
    | (refine step_call rfl 263 #[.slice B n.2.length cap'] (by go_simp) (CL.out w3 (Ext.trans B2.out B3.out)) ?_; rintro e w4 ⟨v4, rfl, hO4, hb4⟩; obtain ⟨g4, c4, hv4, hK4⟩ := own_read hO4; subst hv4; have B4 := Lib.hid (B3.out.trans hb4); have D4 := Lib.hid (show Kids w4 g4 n.2 from ⟨hK4, hK.2⟩); have V4 := Lib.hid (D3.out.ext hb4); have z := H2.out.below B4.out; have k0 := (z.cell 0).trans rfl; have k1 := (z.cell 1).trans rfl; have k2 := z.frozen 0; have k3 := z.frozen 1; have H4 := Lib.hid z; clear hO4 hb4 hK4 z; refine ⟨_, rfl, ?_⟩))
  all_goals (
    go_wp2
    have hz := (H4.out.put 0 (.slice A2 (Sp.live n.1).length c2) rfl).put 1 (.slice g4 n.2.length c4) rfl
    refine bodyPost_ret (results_cell_row rfl _ _ g2 116 #[.slice A2 (Sp.live n.1).length c2, .slice g4 n.2.length c4] (0, 0) _ rfl hz Tryz.underlying116 rfl (by kernel_rfl)) rfl ?_
    have e1 := (Only.set g2 0 (.slice A2 (Sp.live n.1).length c2) w4).trans (Only.set g2 1 (.slice g4 n.2.length c4) _)
    have hs : ∀ z ∈ (#[.slice none 0 0, .slice none 0 0] : Array Value).toList, isSl z = true := by decide
    have BW := E0.out.trans (Ext.trans B2.out B4.out)
    exact ⟨A2, c2, g4, c4, rfl, V4.out.apart e1 H4.out hs, D4.out.apart e1 H4.out hs, BW.from' (e1.below (by have := GG2.out; have := SZ.out; omega) BW.size)⟩)
theorem own_set {w : World} {B g n cap : Nat} {e : TypeId} {size : Nat} {xs : List Value} (h : w.ownsRow B e size (.slice (some ⟨g, 0, none⟩) n cap) n xs) (j : Nat) (_hj : j < xs.length) (u : Value) :
    (w.setCell ⟨g, j, none⟩ u).ownsRow B e size (.slice (some ⟨g, 0, none⟩) n cap) n (xs.set j u) := by
  obtain ⟨hl, h⟩ := h
  refine ⟨by rw [List.length_set, hl], ?_⟩
  rcases h with ⟨h, _⟩ | ⟨g', cap', cur, hv, hb, hh, hn, hc, hs, ht⟩
  · cases h
  · cases hv
    refine .inr ⟨g, cap, cur.setIfInBounds j u, rfl, hb, isBlk.put hh j u rfl, hn, hc, by simpa using hs, ?_⟩
    rw [Array.toList_setIfInBounds, List.take_set, ht]
theorem own_isBlk {w : World} {B g n cap : Nat} {e : TypeId} {size : Nat} {xs : List Value} (h : w.ownsRow B e size (.slice (some ⟨g, 0, none⟩) n cap) n xs) (j : Nat) (u : Value) (hu : xs[j]? = some u) : w.cell? ⟨g, j, none⟩ = some u ∧ w.frozen? ⟨g, j, none⟩ = false ∧ B ≤ g ∧ g < w.heap.size := by
  rcases h.2 with ⟨h, _⟩ | ⟨g', cap', cur, hv, hb, hh, hn, hc, hs, ht⟩
  · cases h
  · cases hv
    refine ⟨?_, isBlk.frozen hh j, hb, isBlk.lt hh⟩
    rw [isBlk.cell hh j]
    rw [← ht, List.getElem?_take] at hu
    split at hu
    · simpa using hu
    · cases hu
theorem versC_set : ∀ (m : List (Option Addr × Nat × Sp.Ver)) (k : Nat) (A : Option Addr) (c : Nat) (h : k < m.length), (versC m).set (k * 5 + 2) (.slice A m[k].2.2.past.length c) = versC (m.set k (A, c, m[k].2.2))
  | x :: r, 0, A, c, _ => by
    simp only [versC, List.getElem_cons_zero, List.set_cons_zero]
    rfl
  | x :: r, k + 1, A, c, h => by
    have ih := versC_set r k A c (by simpa using h)
    simp only [List.getElem_cons_succ, List.set_cons_succ, versC]
    have h5 : (verC x.1 x.2.1 x.2.2).toList.length = 5 := rfl
    rw [← ih, List.set_append_right _ _ (by rw [h5]; omega), h5, show (k + 1) * 5 + 2 - 5 = k * 5 + 2 by omega]
theorem dotsC_one : ∀ (l : List Sp.Dot), ∀ u ∈ dotsC l, u.oneCell' = true
  | [], u, h => by cases h
  | d :: r, u, h => by
    rw [show dotsC (d :: r) = .int .i64 d.1 :: .int .i64 d.2 :: dotsC r from rfl] at h
    rcases List.mem_cons.1 h with rfl | h
    · rfl
    · rcases List.mem_cons.1 h with rfl | h
      · rfl
      · exact dotsC_one r u h
theorem Cells.off {w w' : World} {B g : Nat} {A : Option Addr} {cs : List Value} (h : Cells w A cs) (ha : ∀ a, A = some a → B ≤ a.block) (hg : g < B) (e : Only g w w') : Cells w' A cs := h.only (fun a h1 h2 => by have := ha a h1; omega) e
set_option maxRecDepth 100000 in
set_option maxHeartbeats 4000000 in
theorem copied_calls (l : List Sp.Ver) (A : Option Addr) (cap : Nat) (w : World) (hV : Vers w A l) (hl : l.length ≤ 1000000) (hp : ∀ v ∈ l, v.past.length ≤ 1000000) :
    Calls Tryz.prog 84 #[.slice A l.length cap] w (ToldVers w l) := by
  obtain ⟨m, hm, hc, hps⟩ := hV
  have hml : m.length = l.length := by rw [← hm]; simp
  have CV := Lib.hid (cloneVer (versC m) l.length cap A w hc (by rw [versC_len, hml]) (versC_one m) (by omega))
  go_enter Tryz.func84, Tryz.ntmps84
  go_wp2_with fail
  refine CV.out.mono ?_
  rintro e w1 ⟨v1, rfl, hO, hb1⟩
  rcases own_form hO with ⟨rfl, hl0, _⟩ | ⟨gv, cv, rfl, hgv, hgl⟩
  · have hl0' : l = [] := List.eq_nil_of_length_eq_zero hl0
    subst hl0'
    go_wp2
    go_loopw [9] (fun v9 wr => v9 = .int .i64 0 ∧ wr = w1) (fun _ _ => 0)
    case atStart => exact ⟨rfl, rfl⟩
    case round =>
      obtain ⟨rfl, rfl⟩ := hrel
      go_wp2
      go_ret
      exact ⟨_, rfl, ⟨[], rfl, World.ownsRow_nil _ _ _ _, fun _ h => by cases h⟩, hb1⟩
  · have HM := Lib.hid hm
    have HPS := Lib.hid hps
    have HO := Lib.hid hO
    have HB1 := Lib.hid hb1
    clear hO hb1 hc hm hps
    go_wp2
    go_loopw [9] (fun v9 wr => ∃ (k : Nat) (m' : List (Option Addr × Nat × Sp.Ver)), k ≤ l.length ∧ v9 = .int .i64 k ∧ m'.map (·.2.2) = l ∧ wr.ownsRow w.heap.size 71 5 (.slice (some ⟨gv, 0, none⟩) l.length cv) l.length (versC m') ∧
      (∀ i (h : i < m'.length), (i < k → (∀ a, m'[i].1 = some a → gv < a.block) ∧ Past wr m'[i].1 m'[i].2.2) ∧ (k ≤ i → Past w m'[i].1 m'[i].2.2)) ∧ Ext w wr ∧ gv < wr.heap.size) (fun v9 _ => l.length - (intOf v9).toNat)
    case atStart => exact ⟨0, m, Nat.zero_le _, rfl, HM.out, HO.out, fun i h => ⟨fun h0 => by omega, fun _ => HPS.out _ (List.getElem_mem h)⟩, HB1.out, hgl⟩
    case round =>
      obtain ⟨k, m', hk, rfl, hmm, hO, hP, hb, hgw⟩ := hrel
      have hml' : m'.length = l.length := by rw [← hmm]; simp
      by_cases hlt : k < l.length
      · have hkm : k < m'.length := by omega
        obtain ⟨c2, f2, hBg, _⟩ := own_isBlk hO (k * 5 + 2) _ ((versC_get m' k 2 hkm (by decide)).trans rfl)
        have pk := (hP k hkm).2 (Nat.le_refl _)
        have hpl : m'[k].2.2.past.length ≤ 1000000 := hp _ (by rw [← hmm]; exact List.mem_map.2 ⟨m'[k], List.getElem_mem hkm, rfl⟩)
        have CD := Lib.hid (cloneDot (dotsC m'[k].2.2.past) m'[k].2.2.past.length m'[k].2.1 m'[k].1 wr (pk.ext hb).1 (dotsC_len _) (dotsC_one _) (by omega))
        have EP := Lib.hid fun (W : World) (x : Option Addr × Nat × Sp.Ver) (hx : x ∈ m') => hx
        have O0 := Lib.hid hO
        have P0 := Lib.hid hP
        have HB := Lib.hid hb
        have HMM := Lib.hid hmm
        have HGW := Lib.hid hgw
        have PL := Lib.hid pk.2
        have B1 : (k : Int) < (l.length : Int) := by omega
        obtain ⟨x, hx⟩ : ∃ x, x = m'[k] := ⟨_, rfl⟩
        rw [← hx] at c2 CD PL hpl
        have HX := Lib.hid hx
        clear hO hP hb hmm hgw pk EP hx
        go_wp2_with fail
        refine CD.out.mono ?_
        rintro e w2 ⟨v2, rfl, hO2, hb2⟩
        obtain ⟨A2, cp2, rfl, hC2⟩ := own_read hO2
        have off := own_off hO2
        have c2' := hb2.cell c2
        have f2' : w2.frozen? ⟨gv, k * 5 + 2, none⟩ = false := by
          have := hb2.block gv HGW.out
          rw [World.frozen?_of_block (a := ⟨gv, k * 5 + 2, none⟩) this]; exact f2
        have O2 := Lib.hid hO2
        have C2 := Lib.hid hC2
        have OFF := Lib.hid off
        have HB2 := Lib.hid hb2
        clear hO2 hC2 off hb2 c2 f2
        go_wp2_with fail
        have hj : k * 5 + 2 < (versC m').length := by rw [versC_len]; omega
        have O3 := own_set (owned_below O0.out HB2.out) (k * 5 + 2) hj (.slice A2 x.2.2.past.length cp2)
        have VS := versC_set m' k A2 cp2 hkm
        rw [← HX.out] at VS
        rw [VS] at O3
        have hlk : x.2.2 = l[k] := by
          have : l[k]? = some x.2.2 := by rw [← HMM.out, List.getElem?_map, List.getElem?_eq_getElem hkm, ← HX.out]; rfl
          rw [List.getElem?_eq_getElem hlt] at this
          exact (Option.some.inj this).symm
        have hmap : (m'.set k (A2, cp2, x.2.2)).map (·.2.2) = l := by
          rw [List.map_set, HMM.out]
          show l.set k x.2.2 = l
          rw [hlk, List.set_getElem_self]
        have on : Only gv w2 (w2.setCell ⟨gv, k * 5 + 2, none⟩ (.slice A2 x.2.2.past.length cp2)) := Only.set _ _ _ _
        refine ⟨⟨k + 1, m'.set k (A2, cp2, x.2.2), by omega, by go_num, hmap, O3, fun i hi => ?_, (HB.out.trans HB2.out).setCell hBg _, by have := HB2.out.size; have := HGW.out; simp; omega⟩, by simp [intOf]; omega⟩
        have hi' : i < m'.length := by simpa using hi
        rw [List.getElem_set]
        by_cases hik : k = i
        · rw [if_pos hik]
          refine ⟨fun _ => ⟨fun a ha => by have := OFF.out a ha; have := HGW.out; omega, ?_, PL.out⟩, fun h => by omega⟩
          exact C2.out.off OFF.out HGW.out on
        · rw [if_neg hik]
          obtain ⟨p1, p2⟩ := P0.out i hi'
          refine ⟨fun h => ?_, fun h => p2 (by omega)⟩
          obtain ⟨q1, q2⟩ := p1 (by omega)
          exact ⟨q1, Cells.off (B := gv + 1) (q2.ext HB2.out).1 (fun a ha => q1 a ha) (Nat.lt_succ_self _) on, q2.2⟩
      · obtain rfl : k = l.length := by omega
        go_wp2
        go_ret
        exact ⟨_, rfl, ⟨m', hmm, hO, fun x hx => by
          obtain ⟨i, hi, rfl⟩ := List.getElem_of_mem hx
          exact ((hP i hi).1 (by omega)).2⟩, hb⟩
end Go.Proofs.YtmlfnidckfeebaaGreatDoor
namespace Go.Proofs.YtmlfnidckfeebaaGreatDoor
open Go.RowKit Go.Shelf
attribute [local go_sem] yUpon strOf_toList
def strsC (l : List Sp.Bs) : List Value := l.map fun s => .string (strOf s)
def Nams (w : World) (A : Option Addr) (l : List Sp.Bs) : Prop := Cells w A (strsC l)
theorem Nams.ext {w w' : World} {A : Option Addr} {l : List Sp.Bs} (h : Nams w A l) (e : Ext w w') : Nams w' A l := Cells.ext h e
theorem Nams.at {w : World} {A : Option Addr} {l : List Sp.Bs} (h : Nams w A l) (hn : 0 < l.length) : ∃ g o, A = some ⟨g, o, none⟩ ∧ ∀ k (h : k < l.length), w.cell? ⟨g, o + k, none⟩ = some (.string (strOf l[k])) := by
  obtain ⟨g, o, hA, hc⟩ := h (by intro e; rw [strsC, List.map_eq_nil_iff] at e; rw [e] at hn; simp at hn)
  exact ⟨g, o, hA, fun k hk => hc k _ (by simp [strsC, hk])⟩
set_option maxRecDepth 100000 in
set_option maxHeartbeats 2000000 in
theorem cnan_calls (a : Sp.Bs) (w : World) : Calls Tryz.prog 270 #[.string (strOf a)] w fun e w' => e = .returned (.bool false) ∧ w = w' := by
  go_enter Tryz.func270, Tryz.ntmps270
  go_wp2
  go_ret
  exact ⟨ret_bool (by simp), rfl⟩
set_option maxRecDepth 100000 in
set_option maxHeartbeats 2000000 in
theorem snan_calls (a : Sp.Bs) (w : World) : Calls Tryz.prog 236 #[.string (strOf a)] w fun e w' => e = .returned (.bool false) ∧ w = w' := by
  go_enter Tryz.func236, Tryz.ntmps236
  go_wp2
  go_ret
  exact ⟨ret_bool (by simp), rfl⟩
set_option maxRecDepth 100000 in
set_option maxHeartbeats 2000000 in
theorem sless_calls (a b : Sp.Bs) (w : World) : Calls Tryz.prog 235 #[.string (strOf a), .string (strOf b)] w fun e w' => e = .returned (.bool (Op.bytesLess a b)) ∧ w = w' := by
  go_enter Tryz.func235, Tryz.ntmps235
  go_wp2_with (go_at_call 270; refine (cnan_calls _ _).mono ?_; rintro e w1 ⟨rfl, rfl⟩)
  go_ret
  exact ⟨ret_bool (by simp), rfl⟩
set_option maxRecDepth 100000 in
set_option maxHeartbeats 2000000 in
theorem bin_calls (l : List Sp.Bs) (t : Sp.Bs) (p : Nat) (A : Option Addr) (cap : Nat) (w : World) (h : Nams w A l) (hl : l.length ≤ 140737488351232) (hp : p ≤ l.length) (hm : ∀ k (h : k < l.length), Op.bytesLess l[k] t = decide (k < p)) :
    Calls Tryz.prog 172 #[.slice A l.length cap, .string (strOf t)] w fun e w' => e = .returned (.tuple #[.int .i64 p, .bool (decide (l[p]? = some t))]) ∧ Ext w w' := by
  go_enter Tryz.func172, Tryz.ntmps172
  go_wp2
  go_loopw [7, 8] (fun v7 v8 wr => ∃ (i j : Nat), i ≤ p ∧ p ≤ j ∧ j ≤ l.length ∧ v7 = .int .i64 i ∧ v8 = .int .i64 j ∧ Ext w wr) (fun v7 v8 _ => (intOf v8).toNat - (intOf v7).toNat)
  case atStart => exact ⟨0, l.length, Nat.zero_le _, hp, Nat.le_refl _, rfl, rfl, Ext.refl _⟩
  case round =>
    obtain ⟨i, j, hi, hpj, hj, rfl, rfl, hb⟩ := hrel
    by_cases hlt : i < j
    · obtain ⟨m, hmm⟩ : ∃ m, m = (i + j) / 2 := ⟨_, rfl⟩
      have hml : m < l.length := by omega
      obtain ⟨g, o, rfl, hc⟩ := (h.ext hb).at (by omega)
      have c1 := hc m hml
      have e1 : ((i : Int) + (j : Int)) / 2 = (m : Int) := by omega
      have hd := hm m hml
      have MM := Lib.hid hmm
      obtain ⟨x, hx⟩ : ∃ x, x = l[m] := ⟨_, rfl⟩
      rw [← hx] at c1 hd
      clear hc hmm hx
      go_wp2_with (go_at_call 235; refine (sless_calls x t _).mono ?_; rintro e w1 ⟨rfl, rfl⟩; rw [hd])
      · go_roundw
        case rel => exact ⟨m + 1, j, by simp_all; omega, hpj, hj, by go_num, rfl, hb⟩
        case measure => simp [intOf]; have := MM.out; omega
      · go_roundw
        case rel => exact ⟨i, m, hi, by simp_all, by omega, rfl, rfl, hb⟩
        case measure => simp [intOf]; have := MM.out; omega
    · obtain rfl : i = p := by omega
      obtain rfl : j = i := by omega
      by_cases hpl : j < l.length
      · obtain ⟨g, o, rfl, hc⟩ := (h.ext hb).at (by omega)
        have c1 := hc j hpl
        have hg : l[j]? = some l[j] := List.getElem?_eq_getElem hpl
        obtain ⟨x, hx⟩ : ∃ x, x = l[j] := ⟨_, rfl⟩
        rw [← hx] at c1 hg
        have HG := Lib.hid hg
        clear hc hx hg
        go_wp2_with (go_at_call 236; refine (snan_calls _ _).mono ?_; rintro e w1 ⟨rfl, rfl⟩)
        all_goals go_ret2
        all_goals rename_i hxt
        · refine ⟨?_, hb⟩
          rw [HG.out, hxt, decide_eq_true (rfl : some t = some t)]
          rfl
        · refine ⟨?_, hb⟩
          rw [HG.out, decide_eq_false (fun h => hxt (Option.some.inj h))]
          show Ending.returned (.tuple #[.int .i64 (j : Nat), .bool (x == t)]) = _
          rw [show (x == t) = false by simpa using hxt]
      · have hg : l[j]? = none := List.getElem?_eq_none (by omega)
        have HG := Lib.hid hg
        clear hg
        go_wp2_with fail
        go_ret2
        exact ⟨by rw [HG.out]; simp, hb⟩
theorem clear_run {P : Program} (w : World) {ops : Array Oper} {rest : List Oper} {o : Oper} {a : Act} {Q : Exit → Act → World → Prop} (hgd : o.guard = none) (x : Operand) (t : TypeId)
    (ho : o.op = .call { callee := .builtin .clear, args := #[x], argTypes := #[t] }) (vx : Value) (hx : a.eval x = vx)
    (v' : Value) (w' : World) (hr : (Builtin.clear_ #[t] o.type #[vx]).run P w = .ok v' w') (h : wpList P ops Q rest (a.put o.dst v') w') : wpList P ops Q (o :: rest) a w := by
  refine wpList_plain hgd fun K hK => ?_
  unfold Oper.wp execOp
  simp only [ho, resolve, invoke, builtin, Sem.run_bind, Sem.run_pure, Result.andThen_ok, List.map_toArray, List.map_cons, List.map_nil, hx, hr]
  exact hK _ _ h
theorem putsA_size : ∀ (vs : List Value) (o : Nat) (cs : Array Value), (putsA cs o vs).size = cs.size
  | [], _, _ => rfl
  | v :: r, o, cs => by rw [putsA, putsA_size r, Array.size_setIfInBounds]
theorem putsA_get : ∀ (vs : List Value) (o : Nat) (cs : Array Value) (m : Nat), o + vs.length ≤ cs.size → (putsA cs o vs)[m]? = if o ≤ m ∧ m < o + vs.length then vs[m - o]? else cs[m]?
  | [], o, cs, m, _ => by rw [if_neg (by rw [List.length_nil]; omega)]; rfl
  | v :: r, o, cs, m, h => by
    rw [putsA, putsA_get r (o + 1) _ m (by simp at h ⊢; omega)]
    simp at h
    by_cases h1 : o + 1 ≤ m ∧ m < o + 1 + r.length
    · rw [if_pos h1, if_pos (by simp; omega), show m - o = (m - (o + 1)) + 1 by omega, List.getElem?_cons_succ]
    · rw [if_neg h1]
      by_cases h2 : m = o
      · subst h2
        rw [if_pos (by simp), Nat.sub_self, Array.getElem?_setIfInBounds_self_of_lt (by omega)]
        rfl
      · rw [if_neg (by simp; omega), Array.getElem?_setIfInBounds_ne (by omega)]
theorem erase_puts (cur : Array Value) (n i : Nat) (z : Value) (hi : i < n) (hn : n ≤ cur.size) :
    (putsA (putsA cur i ((cur.toList.take n).drop (i + 1))) (n - 1) [z]).toList.take (n - 1) = (cur.toList.take n).eraseIdx i := by
  have hl : ((cur.toList.take n).drop (i + 1)).length = n - (i + 1) := by simp; omega
  apply List.ext_getElem?
  intro m
  rw [List.getElem?_take, List.getElem?_eraseIdx, Array.getElem?_toList]
  by_cases hm : m < n - 1
  · rw [if_pos hm, putsA_get _ _ _ _ (by rw [putsA_size]; simp; omega), if_neg (by simp; omega), putsA_get _ _ _ _ (by rw [hl]; omega)]
    by_cases h1 : m < i
    · rw [if_neg (by omega), if_pos h1, List.getElem?_take, if_pos (by omega), Array.getElem?_toList]
    · rw [if_pos (by rw [hl]; omega), if_neg h1, List.getElem?_drop, show i + 1 + (m - i) = m + 1 by omega]
  · rw [if_neg hm]
    symm
    split
    · omega
    · rw [List.getElem?_take, if_neg (by omega)]
set_option maxRecDepth 100000 in
set_option maxHeartbeats 4000000 in
theorem delStr_calls (B g n cap i : Nat) (xs : List Value) (w : World) (h : w.ownsRow B 9 1 (.slice (some ⟨g, 0, none⟩) n cap) n xs) (hi : i < n) (hn : n ≤ 10000000) (h1 : ∀ u ∈ xs, u.oneCell' = true) :
    Calls Tryz.prog 175 #[.slice (some ⟨g, 0, none⟩) n cap, .int .i64 i, .int .i64 ((i + 1 : Nat) : Int)] w fun e w' => e = .returned (.slice (some ⟨g, 0, none⟩) (n - 1) cap) ∧ w'.ownsRow B 9 1 (.slice (some ⟨g, 0, none⟩) (n - 1) cap) (n - 1) (xs.eraseIdx i) ∧ Below B w w' ∧ Only g w w' := by
  obtain ⟨hnc, hcm⟩ := own_cap h
  have hxl : xs.length = n := by have := own_len h; omega
  obtain ⟨j, hj⟩ : ∃ j, j = i + 1 := ⟨_, rfl⟩
  rw [← hj]
  have HJ := Lib.hid hj
  have b1 : (i : Int) ≤ (j : Int) := by omega
  have b2 : (j : Int) ≤ (n : Int) := by omega
  have b3 : (n : Int) ≤ (cap : Int) := by omega
  have b4 : (i : Int) ≤ (n : Int) := by omega
  have b5 : (i : Int) ≠ (j : Int) := by omega
  have b6 : (i : Int) ≤ (cap : Int) := by omega
  have c1 : i ≤ j := by omega
  have c2 : j ≤ n := by omega
  have c3 : i ≤ n := by omega
  have c4 : i ≤ cap := by omega
  have c5 : i ≠ j := by omega
  have HO := Lib.hid h
  clear hj h
  go_enter Tryz.func175, Tryz.ntmps175
  go_wp2_with fail
  obtain ⟨ht, _, _, i0, z, hi0, hz, hsz, hby, hzs⟩ := appStr
  have hz1 : z = .string ⟨#[]⟩ := by
    have h0 : (Tryz.prog.info? 9).map (fun i => i.zero) = some (some (.string ⟨#[]⟩)) := by kernel_rfl
    rw [hi0] at h0
    simp only [Option.map_some, Option.some.injEq] at h0
    rw [hz] at h0
    exact Option.some.inj h0
  have hzz : z.cells = #[z] := by rw [hz1]; rfl
  have hz2 : z.oneCell' = true := by rw [hz1]; rfl
  have hz3 := Lib.hid (show ∀ W, (zeroValue 9).run Tryz.prog W = .ok z W from fun W => by simp [zeroValue, typeInfo, hi0, hz])
  clear hz1
  have RD : ∀ m u, (xs.drop j)[m]? = some u → w.drew.cell? ((⟨g, j, none⟩ : Addr).add m) = some u := by
    intro m u hu
    rw [List.getElem?_drop] at hu
    rw [show (⟨g, j, none⟩ : Addr).add m = ⟨g, j + m, none⟩ from by unfold Addr.add; split <;> simp_all]
    exact (own_isBlk HO.out (j + m) u hu).1
  have SP : ∀ m, m < (xs.drop j).length → (w.drew.cell? ⟨g, 0 + i * 1 + m, none⟩).isSome = true ∧ w.drew.frozen? ⟨g, 0 + i * 1 + m, none⟩ = false := by
    intro m hm
    rw [List.length_drop] at hm
    have hm2 : i + m < xs.length := by omega
    obtain ⟨q1, q2, _, _⟩ := own_isBlk HO.out (i + m) _ (List.getElem?_eq_getElem hm2)
    rw [show 0 + i * 1 + m = i + m by omega]
    exact ⟨by rw [show w.drew.cell? ⟨g, i + m, none⟩ = w.cell? ⟨g, i + m, none⟩ from rfl, q1]; rfl, q2⟩
  have HL := Lib.hid (show (xs.drop j).length = (n - j) * 1 by simp; omega)
  have RD' := Lib.hid RD
  have SP' := Lib.hid SP
  have H1' := Lib.hid (show ∀ u ∈ xs.drop j, u.oneCell' = true from fun u hu => h1 u (List.mem_of_mem_drop hu))
  obtain ⟨ys, hys⟩ : ∃ ys, ys = xs.drop j := ⟨_, rfl⟩
  rw [← hys] at HL RD' SP' H1'
  have YS := Lib.hid hys
  have XL := Lib.hid hxl
  clear RD SP hys hxl h1
  by_cases hcj : cap = j
  · have RDn : ∀ m u, ys[m]? = some u → w.drew.cell? ((⟨g, 0, none⟩ : Addr).add m) = some u := fun m u hu => by
      have h0 : ys = [] := List.eq_nil_of_length_eq_zero (by have := HL.out; omega)
      rw [h0] at hu; cases hu
    go_region_law (refine step_append_room rfl _ _ _ rfl 9 i0 1 ht hi0 hsz g 0 i cap (by go_simp) ⟨g, 0, none⟩ (n - j) (cap - j) ys (by go_simp) HL.out RDn H1'.out (by omega) SP'.out ?_)
    all_goals (
      have tokC : True := trivial
      obtain ⟨q, hq⟩ : ∃ q, q = i + (n - j) := ⟨_, rfl⟩
      have HQN := Lib.hid (show q = n - 1 by have := HJ.out; omega)
      have hq1 : n - q = 1 := by have := HQN.out; omega
      have hq' : i + (n - j) = q := hq.symm
      have hq3 : (i : Int) + ((n - j : Nat) : Int) = (q : Int) := by omega
      have hq4 : q ≤ n := by have := HQN.out; omega
      have hq5 : q < cap := by have := HQN.out; omega
      have hq6 : ¬ cap = q := by omega
      clear hq
      obtain ⟨_, hbk⟩ := HO.out
      rcases hbk with ⟨hb0, _⟩ | ⟨g', cap', cur, hv, hBg, hh, _, _, hs, ht2⟩
      · cases hb0
      cases hv
      rw [Nat.mul_one] at hs ht2
      have hyl : ys.length = n - j := by have := HL.out; omega
      have X1 := Lib.hid (show isBlk (w.drew.setCells g i ys) g 9 (putsA cur i ys) from isBlk.puts ys i (isBlk.drew hh))
      have hqs : q < (putsA cur i ys).size := by rw [putsA_size]; have := HQN.out; omega
      have CR := Lib.run_clear_slice (P := Tryz.prog) (w.drew.setCells g i ys) 32 9 0 z ht hz3.out hzz hz2 g q 1 (cap - q) (by decide) (fun m hm => by
        obtain rfl : m = 0 := by omega
        rw [X1.out.at (q + 0) hqs]; rfl) (fun m _ => X1.out.frozen _)
      go_wp2_with (have _tc := tokC; refine clear_run _ rfl (.tmp 31) 32 rfl (.slice (some ⟨g, q, none⟩) 1 (cap - q)) (by go_simp; first | done | rw [hq1]) _ _ CR ?_; clear tokC _tc)
      go_ret
      have X2 := isBlk.puts (List.replicate 1 z) q X1.out
      have EP := erase_puts cur n i z hi (by omega)
      have on := ((Only.refl g w).drew.trans (Only.sets g ys i w.drew)).trans (Only.sets g (List.replicate 1 z) q _)
      have hy2 : ys = (cur.toList.take n).drop (i + 1) := by rw [YS.out, ht2, HJ.out]
      rw [← hy2, ht2, ← HQN.out] at EP
      refine ⟨by rw [HQN.out]; first | rfl | (rw [hcj]; rfl), ⟨by rw [List.length_eraseIdx, if_pos (by omega)]; omega, .inr ⟨g, cap, _, rfl, hBg, X2, by omega, by unfold maxLen; omega, by rw [putsA_size, putsA_size]; omega, ?_⟩⟩, on.below hBg (by have := isBlk.lt hh; omega), on⟩
      rw [Nat.mul_one, ← HQN.out]
      exact EP)
  · go_region_law (refine step_append_room rfl _ _ _ rfl 9 i0 1 ht hi0 hsz g 0 i cap (by go_simp) ⟨g, j, none⟩ (n - j) (cap - j) ys (by go_simp) HL.out RD'.out H1'.out (by omega) SP'.out ?_)
    all_goals (
      have tokC : True := trivial
      obtain ⟨q, hq⟩ : ∃ q, q = i + (n - j) := ⟨_, rfl⟩
      have HQN := Lib.hid (show q = n - 1 by have := HJ.out; omega)
      have hq1 : n - q = 1 := by have := HQN.out; omega
      have hq' : i + (n - j) = q := hq.symm
      have hq3 : (i : Int) + ((n - j : Nat) : Int) = (q : Int) := by omega
      have hq4 : q ≤ n := by have := HQN.out; omega
      have hq5 : q < cap := by have := HQN.out; omega
      have hq6 : ¬ cap = q := by omega
      clear hq
      obtain ⟨_, hbk⟩ := HO.out
      rcases hbk with ⟨hb0, _⟩ | ⟨g', cap', cur, hv, hBg, hh, _, _, hs, ht2⟩
      · cases hb0
      cases hv
      rw [Nat.mul_one] at hs ht2
      have hyl : ys.length = n - j := by have := HL.out; omega
      have X1 := Lib.hid (show isBlk (w.drew.setCells g i ys) g 9 (putsA cur i ys) from isBlk.puts ys i (isBlk.drew hh))
      have hqs : q < (putsA cur i ys).size := by rw [putsA_size]; have := HQN.out; omega
      have CR := Lib.run_clear_slice (P := Tryz.prog) (w.drew.setCells g i ys) 32 9 0 z ht hz3.out hzz hz2 g q 1 (cap - q) (by decide) (fun m hm => by
        obtain rfl : m = 0 := by omega
        rw [X1.out.at (q + 0) hqs]; rfl) (fun m _ => X1.out.frozen _)
      go_wp2_with (have _tc := tokC; refine clear_run _ rfl (.tmp 31) 32 rfl (.slice (some ⟨g, q, none⟩) 1 (cap - q)) (by go_simp; first | done | rw [hq1]) _ _ CR ?_; clear tokC _tc)
      go_ret
      have X2 := isBlk.puts (List.replicate 1 z) q X1.out
      have EP := erase_puts cur n i z hi (by omega)
      have on := ((Only.refl g w).drew.trans (Only.sets g ys i w.drew)).trans (Only.sets g (List.replicate 1 z) q _)
      have hy2 : ys = (cur.toList.take n).drop (i + 1) := by rw [YS.out, ht2, HJ.out]
      rw [← hy2, ht2, ← HQN.out] at EP
      refine ⟨by rw [HQN.out]; first | rfl | (rw [hcj]; rfl), ⟨by rw [List.length_eraseIdx, if_pos (by omega)]; omega, .inr ⟨g, cap, _, rfl, hBg, X2, by omega, by unfold maxLen; omega, by rw [putsA_size, putsA_size]; omega, ?_⟩⟩, on.below hBg (by have := isBlk.lt hh; omega), on⟩
      rw [Nat.mul_one, ← HQN.out]
      exact EP)
set_option maxRecDepth 100000 in
set_option maxHeartbeats 4000000 in
theorem delPtr_calls (B g n cap i : Nat) (xs : List Value) (w : World) (h : w.ownsRow B 123 1 (.slice (some ⟨g, 0, none⟩) n cap) n xs) (hi : i < n) (hn : n ≤ 10000000) (h1 : ∀ u ∈ xs, u.oneCell' = true) :
    Calls Tryz.prog 176 #[.slice (some ⟨g, 0, none⟩) n cap, .int .i64 i, .int .i64 ((i + 1 : Nat) : Int)] w fun e w' => e = .returned (.slice (some ⟨g, 0, none⟩) (n - 1) cap) ∧ w'.ownsRow B 123 1 (.slice (some ⟨g, 0, none⟩) (n - 1) cap) (n - 1) (xs.eraseIdx i) ∧ Below B w w' ∧ Only g w w' := by
  obtain ⟨hnc, hcm⟩ := own_cap h
  have hxl : xs.length = n := by have := own_len h; omega
  obtain ⟨j, hj⟩ : ∃ j, j = i + 1 := ⟨_, rfl⟩
  rw [← hj]
  have HJ := Lib.hid hj
  have b1 : (i : Int) ≤ (j : Int) := by omega
  have b2 : (j : Int) ≤ (n : Int) := by omega
  have b3 : (n : Int) ≤ (cap : Int) := by omega
  have b4 : (i : Int) ≤ (n : Int) := by omega
  have b5 : (i : Int) ≠ (j : Int) := by omega
  have b6 : (i : Int) ≤ (cap : Int) := by omega
  have c1 : i ≤ j := by omega
  have c2 : j ≤ n := by omega
  have c3 : i ≤ n := by omega
  have c4 : i ≤ cap := by omega
  have c5 : i ≠ j := by omega
  have HO := Lib.hid h
  clear hj h
  go_enter Tryz.func176, Tryz.ntmps176
  go_wp2_with fail
  obtain ⟨ht, _, _, i0, z, hi0, hz, hsz, hby, hzs⟩ := appPtr
  have hz1 : z = .pointer none := by
    have h0 : (Tryz.prog.info? 123).map (fun i => i.zero) = some (some (.pointer none)) := by kernel_rfl
    rw [hi0] at h0
    simp only [Option.map_some, Option.some.injEq] at h0
    rw [hz] at h0
    exact Option.some.inj h0
  have hzz : z.cells = #[z] := by rw [hz1]; rfl
  have hz2 : z.oneCell' = true := by rw [hz1]; rfl
  have hz3 := Lib.hid (show ∀ W, (zeroValue 123).run Tryz.prog W = .ok z W from fun W => by simp [zeroValue, typeInfo, hi0, hz])
  clear hz1
  have RD : ∀ m u, (xs.drop j)[m]? = some u → w.drew.cell? ((⟨g, j, none⟩ : Addr).add m) = some u := by
    intro m u hu
    rw [List.getElem?_drop] at hu
    rw [show (⟨g, j, none⟩ : Addr).add m = ⟨g, j + m, none⟩ from by unfold Addr.add; split <;> simp_all]
    exact (own_isBlk HO.out (j + m) u hu).1
  have SP : ∀ m, m < (xs.drop j).length → (w.drew.cell? ⟨g, 0 + i * 1 + m, none⟩).isSome = true ∧ w.drew.frozen? ⟨g, 0 + i * 1 + m, none⟩ = false := by
    intro m hm
    rw [List.length_drop] at hm
    have hm2 : i + m < xs.length := by omega
    obtain ⟨q1, q2, _, _⟩ := own_isBlk HO.out (i + m) _ (List.getElem?_eq_getElem hm2)
    rw [show 0 + i * 1 + m = i + m by omega]
    exact ⟨by rw [show w.drew.cell? ⟨g, i + m, none⟩ = w.cell? ⟨g, i + m, none⟩ from rfl, q1]; rfl, q2⟩
  have HL := Lib.hid (show (xs.drop j).length = (n - j) * 1 by simp; omega)
  have RD' := Lib.hid RD
  have SP' := Lib.hid SP
  have H1' := Lib.hid (show ∀ u ∈ xs.drop j, u.oneCell' = true from fun u hu => h1 u (List.mem_of_mem_drop hu))
  obtain ⟨ys, hys⟩ : ∃ ys, ys = xs.drop j := ⟨_, rfl⟩
  rw [← hys] at HL RD' SP' H1'
  have YS := Lib.hid hys
  have XL := Lib.hid hxl
  clear RD SP hys hxl h1
  by_cases hcj : cap = j
  · have RDn : ∀ m u, ys[m]? = some u → w.drew.cell? ((⟨g, 0, none⟩ : Addr).add m) = some u := fun m u hu => by
      have h0 : ys = [] := List.eq_nil_of_length_eq_zero (by have := HL.out; omega)
      rw [h0] at hu; cases hu
    go_region_law (refine step_append_room rfl _ _ _ rfl 123 i0 1 ht hi0 hsz g 0 i cap (by go_simp) ⟨g, 0, none⟩ (n - j) (cap - j) ys (by go_simp) HL.out RDn H1'.out (by omega) SP'.out ?_)
    all_goals (
      have tokC : True := trivial
      obtain ⟨q, hq⟩ : ∃ q, q = i + (n - j) := ⟨_, rfl⟩
      have HQN := Lib.hid (show q = n - 1 by have := HJ.out; omega)
      have hq1 : n - q = 1 := by have := HQN.out; omega
      have hq' : i + (n - j) = q := hq.symm
      have hq3 : (i : Int) + ((n - j : Nat) : Int) = (q : Int) := by omega
      have hq4 : q ≤ n := by have := HQN.out; omega
      have hq5 : q < cap := by have := HQN.out; omega
      have hq6 : ¬ cap = q := by omega
      clear hq
      obtain ⟨_, hbk⟩ := HO.out
      rcases hbk with ⟨hb0, _⟩ | ⟨g', cap', cur, hv, hBg, hh, _, _, hs, ht2⟩
      · cases hb0
      cases hv
      rw [Nat.mul_one] at hs ht2
      have hyl : ys.length = n - j := by have := HL.out; omega
      have X1 := Lib.hid (show isBlk (w.drew.setCells g i ys) g 123 (putsA cur i ys) from isBlk.puts ys i (isBlk.drew hh))
      have hqs : q < (putsA cur i ys).size := by rw [putsA_size]; have := HQN.out; omega
      have CR := Lib.run_clear_slice (P := Tryz.prog) (w.drew.setCells g i ys) 120 123 0 z ht hz3.out hzz hz2 g q 1 (cap - q) (by decide) (fun m hm => by
        obtain rfl : m = 0 := by omega
        rw [X1.out.at (q + 0) hqs]; rfl) (fun m _ => X1.out.frozen _)
      go_wp2_with (have _tc := tokC; refine clear_run _ rfl (.tmp 31) 120 rfl (.slice (some ⟨g, q, none⟩) 1 (cap - q)) (by go_simp; first | done | rw [hq1]) _ _ CR ?_; clear tokC _tc)
      go_ret
      have X2 := isBlk.puts (List.replicate 1 z) q X1.out
      have EP := erase_puts cur n i z hi (by omega)
      have on := ((Only.refl g w).drew.trans (Only.sets g ys i w.drew)).trans (Only.sets g (List.replicate 1 z) q _)
      have hy2 : ys = (cur.toList.take n).drop (i + 1) := by rw [YS.out, ht2, HJ.out]
      rw [← hy2, ht2, ← HQN.out] at EP
      refine ⟨by rw [HQN.out]; first | rfl | (rw [hcj]; rfl), ⟨by rw [List.length_eraseIdx, if_pos (by omega)]; omega, .inr ⟨g, cap, _, rfl, hBg, X2, by omega, by unfold maxLen; omega, by rw [putsA_size, putsA_size]; omega, ?_⟩⟩, on.below hBg (by have := isBlk.lt hh; omega), on⟩
      rw [Nat.mul_one, ← HQN.out]
      exact EP)
  · go_region_law (refine step_append_room rfl _ _ _ rfl 123 i0 1 ht hi0 hsz g 0 i cap (by go_simp) ⟨g, j, none⟩ (n - j) (cap - j) ys (by go_simp) HL.out RD'.out H1'.out (by omega) SP'.out ?_)
    all_goals (
      have tokC : True := trivial
      obtain ⟨q, hq⟩ : ∃ q, q = i + (n - j) := ⟨_, rfl⟩
      have HQN := Lib.hid (show q = n - 1 by have := HJ.out; omega)
      have hq1 : n - q = 1 := by have := HQN.out; omega
      have hq' : i + (n - j) = q := hq.symm
      have hq3 : (i : Int) + ((n - j : Nat) : Int) = (q : Int) := by omega
      have hq4 : q ≤ n := by have := HQN.out; omega
      have hq5 : q < cap := by have := HQN.out; omega
      have hq6 : ¬ cap = q := by omega
      clear hq
      obtain ⟨_, hbk⟩ := HO.out
      rcases hbk with ⟨hb0, _⟩ | ⟨g', cap', cur, hv, hBg, hh, _, _, hs, ht2⟩
      · cases hb0
      cases hv
      rw [Nat.mul_one] at hs ht2
      have hyl : ys.length = n - j := by have := HL.out; omega
      have X1 := Lib.hid (show isBlk (w.drew.setCells g i ys) g 123 (putsA cur i ys) from isBlk.puts ys i (isBlk.drew hh))
      have hqs : q < (putsA cur i ys).size := by rw [putsA_size]; have := HQN.out; omega
      have CR := Lib.run_clear_slice (P := Tryz.prog) (w.drew.setCells g i ys) 120 123 0 z ht hz3.out hzz hz2 g q 1 (cap - q) (by decide) (fun m hm => by
        obtain rfl : m = 0 := by omega
        rw [X1.out.at (q + 0) hqs]; rfl) (fun m _ => X1.out.frozen _)
      go_wp2_with (have _tc := tokC; refine clear_run _ rfl (.tmp 31) 120 rfl (.slice (some ⟨g, q, none⟩) 1 (cap - q)) (by go_simp; first | done | rw [hq1]) _ _ CR ?_; clear tokC _tc)
      go_ret
      have X2 := isBlk.puts (List.replicate 1 z) q X1.out
      have EP := erase_puts cur n i z hi (by omega)
      have on := ((Only.refl g w).drew.trans (Only.sets g ys i w.drew)).trans (Only.sets g (List.replicate 1 z) q _)
      have hy2 : ys = (cur.toList.take n).drop (i + 1) := by rw [YS.out, ht2, HJ.out]
      rw [← hy2, ht2, ← HQN.out] at EP
      refine ⟨by rw [HQN.out]; first | rfl | (rw [hcj]; rfl), ⟨by rw [List.length_eraseIdx, if_pos (by omega)]; omega, .inr ⟨g, cap, _, rfl, hBg, X2, by omega, by unfold maxLen; omega, by rw [putsA_size, putsA_size]; omega, ?_⟩⟩, on.below hBg (by have := isBlk.lt hh; omega), on⟩
      rw [Nat.mul_one, ← HQN.out]
      exact EP)
end Go.Proofs.YtmlfnidckfeebaaGreatDoor
