/- Walks: slices.Insert of one. Walks: a tree with a leaf at a place: plain, and the walk. Walks: a tree with a leaf at a place. -/
import Derived.Deep.CutBlock
import Derived.Test.YtmlfnidckfeebaaGreatDoorRF015
namespace Go.Proofs.YtmlfnidckfeebaaGreatDoor
open Go.RowKit Go.Shelf
attribute [local go_sem] yUpon strOf_toList
set_option maxRecDepth 100000 in
set_option maxHeartbeats 4000000 in
theorem insStr_calls (B gv n i : Nat) (v u : Value) (xs : List Value) (w : World) (h : w.ownsRow B 9 1 v n xs) (hi : i ≤ n) (hn : n ≤ 10000000) (h1 : ∀ u ∈ xs, u.oneCell' = true) (hu : u.oneCell' = true) (hX : isBlk w gv 9 #[u]) (hg : v.ownBlock ≠ some gv) (hB : B ≤ w.heap.size) :
    Calls Tryz.prog 177 #[v, .int .i64 i, .slice (some ⟨gv, 0, none⟩) 1 1] w fun e w' => ∃ v', e = .returned v' ∧ w'.ownsRow B 9 1 v' (n + 1) (xs.take i ++ u :: xs.drop i) ∧ Below B w w' ∧ ∀ k, k < w.heap.size → v.ownBlock ≠ some k → w'.heap[k]? = w.heap[k]? := by
  have CX := Lib.hid (isBlk.one hX)
  have U1 := Lib.hid (show ∀ x ∈ [u], x.oneCell' = true by intro x hx; rw [List.mem_singleton.1 hx]; exact hu)
  have hxl : xs.length = n := by have := own_len h; omega
  have HB := Lib.hid hB
  clear hB
  rcases own_form h with ⟨rfl, rfl, rfl⟩ | ⟨g, cap, rfl, _, _⟩
  · obtain rfl : i = 0 := by omega
    have HO := Lib.hid h
    have tok : True := trivial
    clear h hX hg hu h1
    go_enter Tryz.func177, Tryz.ntmps177
    go_wp2_with (have _t := tok; at_builtin; refine app_cells appStr rfl _ _ rfl B _ 0 [] rfl HO.out (some ⟨gv, 0, none⟩) 1 1 [u] rfl rfl CX.out U1.out (by omega) HB.out ?_; intro v4 w4 hown4 hgr4 hb4; have HO4 := Lib.hid hown4; have HB4 := Lib.hid hb4; have HG4 := Lib.hid hgr4; clear hown4 hgr4 hb4 tok _t)
    go_ret
    exact ⟨_, rfl, HO4.out, HB4.out, fun k hk hne => HG4.out.block k hk (fun e => hne e.symm)⟩
  obtain ⟨hnc, hcm⟩ := own_cap h
  have HO := Lib.hid h
  have XL := Lib.hid hxl
  clear h
  by_cases hin : i = n
  · subst hin
    have tok : True := trivial
    have e1 : xs.take i ++ u :: xs.drop i = xs ++ [u] := by rw [List.take_of_length_le (by omega), List.drop_eq_nil_of_le (by omega)]
    have E1 := Lib.hid e1
    clear hX hg hu h1 e1 hxl
    go_enter Tryz.func177, Tryz.ntmps177
    go_wp2_with (have _t := tok; at_builtin; refine app_cells appStr rfl _ _ rfl B _ i xs rfl HO.out (some ⟨gv, 0, none⟩) 1 1 [u] rfl rfl CX.out U1.out (by omega) HB.out ?_; intro v4 w4 hown4 hgr4 hb4; have HO4 := Lib.hid hown4; have HB4 := Lib.hid hb4; have HG4 := Lib.hid hgr4; clear hown4 hgr4 hb4 tok _t)
    all_goals (
      go_ret
      exact ⟨_, rfl, by rw [E1.out]; exact HO4.out, HB4.out, fun k hk hne => HG4.out.block k hk (fun e => hne e.symm)⟩)
  have hgg : g ≠ gv := fun e => hg (by rw [e]; rfl)
  have hgl : g < w.heap.size ∧ B ≤ g := by
    rcases HO.out.2 with ⟨h0, _⟩ | ⟨g', _, cur, hv, hBg, hh, _⟩
    · cases h0
    · cases hv; exact ⟨isBlk.lt hh, hBg⟩
  have GL := Lib.hid hgl
  have b1 : (i : Int) ≠ (n : Int) := by omega
  have b2 : (i : Int) < (n : Int) := by omega
  have b3 : i < n := by omega
  have b4 : i ≠ n := by omega
  have b5 : (n : Int) ≤ (cap : Int) := by omega
  have b6 : (i : Int) ≤ (cap : Int) := by omega
  have b7 : i ≤ cap := by omega
  have b8 : ¬ cap = i := by omega
  have XX := Lib.hid hX
  have GG := Lib.hid hgg
  have H1 := Lib.hid h1
  have hszE : (appStr).2.2.2.choose.size = 1 := by
    obtain ⟨_, h1, _, h2, _⟩ := (appStr).2.2.2.choose_spec
    exact h2
  have IS := Lib.hid (show (Tryz.prog.info? 9).map (·.size) = some 1 by
    obtain ⟨_, _, _, i0, z, hi0, hz, hsz, _⟩ := appStr
    rw [hi0]; simp [hsz])
  clear hX hg hu h1 hxl hgl hgg hin hszE
  by_cases hc : cap = n
  · subst hc
    obtain ⟨m, hm⟩ : ∃ m, m = cap + 1 := ⟨_, rfl⟩
    obtain ⟨j, hj⟩ : ∃ j, j = i + 1 := ⟨_, rfl⟩
    obtain ⟨q, hq⟩ : ∃ q, q = m - i := ⟨_, rfl⟩
    have q0 : 0 < q := by omega
    have w1 : IntKind.i64.wrap ((cap : Int) + 1) = (m : Int) := by rw [IntKind.wrap_i64]; omega
    have w2 : IntKind.i64.wrap ((m : Int) - (i : Int)) = (q : Int) := by rw [IntKind.wrap_i64]; omega
    have w3 : IntKind.i64.wrap ((i : Int) + 1) = (j : Int) := by rw [IntKind.wrap_i64]; omega
    have c1 : (cap : Int) < (m : Int) := by omega
    have hiq : i + q = m := by omega
    have HIQ := Lib.hid hiq
    have HM := Lib.hid hm
    have HJ := Lib.hid hj
    have d1 : (i : Int) ≤ (m : Int) := by omega
    have d2 : i ≤ m := by omega
    have d3 : (j : Int) ≤ (m : Int) := by omega
    have d4 : j ≤ m := by omega
    have d5 : ¬ m = j := by omega
    have d6 : ¬ m = i := by omega
    have A1 := Lib.hid (show i + (m - i) = m by omega)
    have A2 := Lib.hid (show [u].length = Nat.min 1 (m - i) by rw [List.length_singleton]; show 1 = min 1 (m - i); omega)
    have A3 := Lib.hid (show j + (m - j) = m by omega)
    have A4 := Lib.hid (show i < m by omega)
    have A5 := Lib.hid (show j < m by omega)
    have A6 := Lib.hid (show (xs.drop i).length = Nat.min (cap - i) (m - j) by rw [List.length_drop, XL.out]; show cap - i = min (cap - i) (m - j); omega)
    have A7 := Lib.hid (show m * 16 ≤ 140737488355328 by omega)
    have A8 := Lib.hid (show m * 8 ≤ 140737488355328 by omega)
    have A9 := Lib.hid (show cap < m by omega)
    clear hq hm hj hiq
    have tok : True := trivial
    have tok2 : True := trivial
    have OL := Lib.hid (own_less HO.out i b7)
    go_enter Tryz.func177, Tryz.ntmps177
    go_wp2_with (first
      | (have _t := tok; at_builtin; refine app_grow appStr Tryz.underlying3 rfl _ _ rfl B g i cap (xs.take i) OL.out q m HIQ.out q0 (by go_simp) (by go_simp) A9.out (by first | exact A7.out | exact A8.out) ?_; intro g2 cap2 zs w4 hg2 hzl hown2 hx4; have G2 := Lib.hid hg2; have ZL := Lib.hid hzl; have HO2 := Lib.hid hown2; have X4 := Lib.hid hx4; have hnc2 := Lib.hid (own_cap hown2); have e1 : i ≤ cap2 := Nat.le_trans d2 hnc2.out.1; have e2 : (i : Int) ≤ (cap2 : Int) := Int.ofNat_le.2 e1; have e3 : ¬ cap2 = i := Nat.ne_of_gt (Nat.lt_of_lt_of_le A4.out hnc2.out.1); have e4 : j ≤ cap2 := Nat.le_trans d4 hnc2.out.1; have e5 : (j : Int) ≤ (cap2 : Int) := Int.ofNat_le.2 e4; have e6 : ¬ cap2 = j := Nat.ne_of_gt (Nat.lt_of_lt_of_le A5.out hnc2.out.1); clear hg2 hzl hown2 hx4 tok _t)
      | (have _t := tok2; (with_reducible refine at_cpy rfl ?_); go_loud (refine copy_own rfl _ _ rfl Tryz.underlying32 IS.out w.heap.size g2 m cap2 (xs.take i ++ zs) HO2.out i (m - i) (cap2 - i) (by go_simp) A1.out ⟨gv, 0, none⟩ 1 1 (by go_simp) [u] A2.out (fun j v hj => ((XX.out.below X4.out).read j v hj)) U1.out ?_); intro w5 hown5 on5 hb5; have HO5 := Lib.hid hown5; have ON5 := Lib.hid on5; have X5 := Lib.hid (X4.out.from' hb5); clear hown5 on5 hb5 tok2 _t))

    refine wp_region_det_tail (fun W => W = w5.drew) 8 (by kernel_rfl) (by kernel_rfl) rfl ?_
    simp only [List.take_succ_cons, List.take_zero, List.drop_succ_cons, List.drop_zero]
    repeat (first
      | (refine det_step (fun K hK => ?_)
         apply Exists.intro
         refine ⟨Or.inl ⟨rfl, fun W hS => ?_⟩, ?_⟩
         · skip
           go_simp
           first
           | exact rfl
           | exact ⟨rfl, hS⟩
           | (fail)
         go_simp
         refine hK _ ?_
         clear hK K)
      | (refine det_step (fun K hK => ?_); refine det_no' rfl ?_; go_simp; refine hK _ ?_; clear hK K))
    refine det_nil ?_
    rintro W rfl
    have SRC := Lib.hid (show ∀ k v, (xs.drop i)[k]? = some v → w5.drew.cell? ((⟨g, i, none⟩ : Addr).add k) = some v from fun k v hk => by
      rw [List.getElem?_drop] at hk
      rw [show (⟨g, i, none⟩ : Addr).add k = ⟨g, i + k, none⟩ from by unfold Addr.add; split <;> simp_all]
      exact X5.out.cell (own_isBlk HO.out (i + k) v hk).1)
    have H1D := Lib.hid (show ∀ v ∈ xs.drop i, v.oneCell' = true from fun v hv => H1.out v (List.mem_of_mem_drop hv))
    have W5R := Lib.hid (owned_drew HO5.out)
    clear HO5
    go_wp2_with ((with_reducible refine at_cpy rfl ?_); go_loud (refine copy_own rfl _ _ rfl Tryz.underlying32 IS.out w.heap.size g2 m cap2 _ W5R.out j (m - j) (cap2 - j) (by go_simp) A3.out ⟨g, i, none⟩ (cap - i) (cap - i) (by go_simp) (xs.drop i) A6.out SRC.out H1D.out ?_); intro w6 hown6 on6 hb6; have HO6 := Lib.hid hown6; have X6 := Lib.hid (Below.trans X5.out.drew hb6); clear hown6 on6 hb6 SRC)
    go_ret
    have fin := HO6.out
    rw [HJ.out, ins_grow xs zs u i (by have := XL.out; omega) (by have := XL.out; have := ZL.out; have := HIQ.out; have := HM.out; omega), HM.out] at fin
    rw [HM.out]
    exact ⟨_, rfl, own_lower fin HB.out, below_lower X6.out HB.out, fun k hk _ => X6.out.block k hk⟩
  · obtain ⟨y, hy⟩ := own_more HO.out (by omega)
    obtain ⟨m, hm⟩ : ∃ m, m = n + 1 := ⟨_, rfl⟩
    obtain ⟨j, hj⟩ : ∃ j, j = i + 1 := ⟨_, rfl⟩
    rw [← hm] at hy
    have HY := Lib.hid hy
    have w1 : IntKind.i64.wrap ((n : Int) + 1) = (m : Int) := by rw [IntKind.wrap_i64]; omega
    have w3 : IntKind.i64.wrap ((i : Int) + 1) = (j : Int) := by rw [IntKind.wrap_i64]; omega
    have c1 : ¬ (cap : Int) < (m : Int) := by omega
    have c2 : (m : Int) ≤ (cap : Int) := by omega
    have c3 : m ≤ cap := by omega
    have HM := Lib.hid hm
    have HJ := Lib.hid hj
    have d1 : (i : Int) ≤ (m : Int) := by omega
    have d2 : i ≤ m := by omega
    have d3 : (j : Int) ≤ (m : Int) := by omega
    have d4 : j ≤ m := by omega
    have d5 : ¬ m = j := by omega
    have d6 : ¬ m = i := by omega
    have d7 : ¬ cap = j := by omega
    have d8 : (j : Int) ≤ (cap : Int) := by omega
    have d9 : j ≤ cap := by omega
    have A1 := Lib.hid (show i + (m - i) = m by omega)
    have A2 := Lib.hid (show [u].length = Nat.min 1 (m - i) by rw [List.length_singleton]; show 1 = min 1 (m - i); omega)
    have A3 := Lib.hid (show j + (m - j) = m by omega)
    have A6 := Lib.hid (show (xs.drop i).length = Nat.min (m - i) (m - j) by rw [List.length_drop, XL.out]; show n - i = min (m - i) (m - j); omega)
    obtain ⟨cur, hcur⟩ : ∃ cur, isBlk w g 9 cur ∧ cur.size = cap := by
      rcases HO.out.2 with ⟨h0, _⟩ | ⟨g', _, cur, hv, hBg, hh, _, _, hs, _⟩
      · cases h0
      · cases hv; exact ⟨cur, hh, by omega⟩
    have hov : ∀ lb cb, (callFunc 237 #[.slice (some ⟨gv, 0, none⟩) 1 1, .slice (some ⟨g, j, none⟩) lb cb]).run Tryz.prog w = .ok (.value (.bool false)) w := fun lb cb => by
      rw [run_callFunc_extern Tryz.func237 (by kernel_rfl) (by kernel_rfl) (by kernel_rfl) (e := Extern.SlicesOverlaps.overlaps #[32, 32] #[4]) (by kernel_rfl),
        Lib.run_overlaps_apart w 32 4 9 Tryz.underlying32 1 (fun W => by
          obtain ⟨_, _, _, i0, z, hi0, hz, hsz, _⟩ := appStr
          simp [sizeOf, typeInfo, hi0, hsz]) ⟨gv, 0, none⟩ ⟨g, j, none⟩ 1 1 lb cb (fun e => GG.out e.symm) 9 9 1 cur.size XX.out.shape hcur.1.shape (by omega) (XX.out.frozen _) (XX.out.frozen _)]
      rfl
    clear hm hj hy hcur
    go_enter Tryz.func177, Tryz.ntmps177
    go_wp2_with (simp only [hov])
    refine wp_region_det_tail (fun W => W = w.drew) 8 (by kernel_rfl) (by kernel_rfl) rfl ?_
    simp only [List.take_succ_cons, List.take_zero, List.drop_succ_cons, List.drop_zero]
    repeat (first
      | (refine det_step (fun K hK => ?_)
         apply Exists.intro
         refine ⟨Or.inl ⟨rfl, fun W hS => ?_⟩, ?_⟩
         · skip
           go_simp
           first
           | exact rfl
           | exact ⟨rfl, hS⟩
           | (fail)
         go_simp
         refine hK _ ?_
         clear hK K)
      | (refine det_step (fun K hK => ?_); refine det_no' rfl ?_; go_simp; refine hK _ ?_; clear hK K))
    refine det_nil ?_
    rintro W rfl
    have SRC := Lib.hid (show ∀ k v, (xs.drop i)[k]? = some v → w.drew.cell? ((⟨g, i, none⟩ : Addr).add k) = some v from fun k v hk => by
      rw [List.getElem?_drop] at hk
      rw [show (⟨g, i, none⟩ : Addr).add k = ⟨g, i + k, none⟩ from by unfold Addr.add; split <;> simp_all]
      exact (own_isBlk HO.out (i + k) v hk).1)
    have H1D := Lib.hid (show ∀ v ∈ xs.drop i, v.oneCell' = true from fun v hv => H1.out v (List.mem_of_mem_drop hv))
    have YR := Lib.hid (owned_drew HY.out)
    have tok : True := trivial
    have tok2 : True := trivial
    clear hov
    go_wp2_with (first
      | (have _t := tok; (with_reducible refine at_cpy rfl ?_); refine copy_own rfl _ _ rfl Tryz.underlying32 IS.out B g m cap _ YR.out j (m - j) (cap - j) (by go_simp) A3.out ⟨g, i, none⟩ (m - i) (cap - i) (by go_simp) (xs.drop i) A6.out SRC.out H1D.out ?_; intro w6 hown6 on6 hb6; have HO6 := Lib.hid hown6; have X6 := Lib.hid (Below.trans (Below.refl B w).drew hb6); have N6 := Lib.hid ((Only.refl g w).drew.trans on6); clear hown6 on6 hb6 SRC tok _t)
      | (have _t := tok2; (with_reducible refine at_cpy rfl ?_); refine copy_own rfl _ _ rfl Tryz.underlying32 IS.out B g m cap _ HO6.out i (m - i) (cap - i) (by go_simp) A1.out ⟨gv, 0, none⟩ 1 1 (by go_simp) [u] A2.out (fun j v hj => (N6.out.blk XX.out (fun e => GG.out e.symm)).read j v hj) U1.out ?_; intro w7 hown7 on7 hb7; have HO7 := Lib.hid hown7; have X7 := Lib.hid (Below.trans X6.out hb7); have N7 := Lib.hid (N6.out.trans on7); clear hown7 on7 hb7 tok2 _t))
    go_ret
    have fin := HO7.out
    rw [HJ.out, ins_room xs y u i (by have := XL.out; omega), HM.out] at fin
    rw [HM.out]
    exact ⟨_, rfl, fin, X7.out, fun k hk hne => N7.out.block k hk (fun e => hne (by rw [e]; rfl))⟩
set_option maxRecDepth 100000 in
set_option maxHeartbeats 4000000 in
theorem insPtr_calls (B gv n i : Nat) (v u : Value) (xs : List Value) (w : World) (h : w.ownsRow B 123 1 v n xs) (hi : i ≤ n) (hn : n ≤ 10000000) (h1 : ∀ u ∈ xs, u.oneCell' = true) (hu : u.oneCell' = true) (hX : isBlk w gv 123 #[u]) (hg : v.ownBlock ≠ some gv) (hB : B ≤ w.heap.size) :
    Calls Tryz.prog 178 #[v, .int .i64 i, .slice (some ⟨gv, 0, none⟩) 1 1] w fun e w' => ∃ v', e = .returned v' ∧ w'.ownsRow B 123 1 v' (n + 1) (xs.take i ++ u :: xs.drop i) ∧ Below B w w' ∧ ∀ k, k < w.heap.size → v.ownBlock ≠ some k → w'.heap[k]? = w.heap[k]? := by
  have CX := Lib.hid (isBlk.one hX)
  have U1 := Lib.hid (show ∀ x ∈ [u], x.oneCell' = true by intro x hx; rw [List.mem_singleton.1 hx]; exact hu)
  have hxl : xs.length = n := by have := own_len h; omega
  have HB := Lib.hid hB
  clear hB
  rcases own_form h with ⟨rfl, rfl, rfl⟩ | ⟨g, cap, rfl, _, _⟩
  · obtain rfl : i = 0 := by omega
    have HO := Lib.hid h
    have tok : True := trivial
    clear h hX hg hu h1
    go_enter Tryz.func178, Tryz.ntmps178
    go_wp2_with (have _t := tok; at_builtin; refine app_cells appPtr rfl _ _ rfl B _ 0 [] rfl HO.out (some ⟨gv, 0, none⟩) 1 1 [u] rfl rfl CX.out U1.out (by omega) HB.out ?_; intro v4 w4 hown4 hgr4 hb4; have HO4 := Lib.hid hown4; have HB4 := Lib.hid hb4; have HG4 := Lib.hid hgr4; clear hown4 hgr4 hb4 tok _t)
    go_ret
    exact ⟨_, rfl, HO4.out, HB4.out, fun k hk hne => HG4.out.block k hk (fun e => hne e.symm)⟩
  obtain ⟨hnc, hcm⟩ := own_cap h
  have HO := Lib.hid h
  have XL := Lib.hid hxl
  clear h
  by_cases hin : i = n
  · subst hin
    have tok : True := trivial
    have e1 : xs.take i ++ u :: xs.drop i = xs ++ [u] := by rw [List.take_of_length_le (by omega), List.drop_eq_nil_of_le (by omega)]
    have E1 := Lib.hid e1
    clear hX hg hu h1 e1 hxl
    go_enter Tryz.func178, Tryz.ntmps178
    go_wp2_with (have _t := tok; at_builtin; refine app_cells appPtr rfl _ _ rfl B _ i xs rfl HO.out (some ⟨gv, 0, none⟩) 1 1 [u] rfl rfl CX.out U1.out (by omega) HB.out ?_; intro v4 w4 hown4 hgr4 hb4; have HO4 := Lib.hid hown4; have HB4 := Lib.hid hb4; have HG4 := Lib.hid hgr4; clear hown4 hgr4 hb4 tok _t)
    all_goals (
      go_ret
      exact ⟨_, rfl, by rw [E1.out]; exact HO4.out, HB4.out, fun k hk hne => HG4.out.block k hk (fun e => hne e.symm)⟩)
  have hgg : g ≠ gv := fun e => hg (by rw [e]; rfl)
  have hgl : g < w.heap.size ∧ B ≤ g := by
    rcases HO.out.2 with ⟨h0, _⟩ | ⟨g', _, cur, hv, hBg, hh, _⟩
    · cases h0
    · cases hv; exact ⟨isBlk.lt hh, hBg⟩
  have GL := Lib.hid hgl
  have b1 : (i : Int) ≠ (n : Int) := by omega
  have b2 : (i : Int) < (n : Int) := by omega
  have b3 : i < n := by omega
  have b4 : i ≠ n := by omega
  have b5 : (n : Int) ≤ (cap : Int) := by omega
  have b6 : (i : Int) ≤ (cap : Int) := by omega
  have b7 : i ≤ cap := by omega
  have b8 : ¬ cap = i := by omega
  have XX := Lib.hid hX
  have GG := Lib.hid hgg
  have H1 := Lib.hid h1
  have hszE : (appPtr).2.2.2.choose.size = 1 := by
    obtain ⟨_, h1, _, h2, _⟩ := (appPtr).2.2.2.choose_spec
    exact h2
  have IS := Lib.hid (show (Tryz.prog.info? 123).map (·.size) = some 1 by
    obtain ⟨_, _, _, i0, z, hi0, hz, hsz, _⟩ := appPtr
    rw [hi0]; simp [hsz])
  clear hX hg hu h1 hxl hgl hgg hin hszE
  by_cases hc : cap = n
  · subst hc
    obtain ⟨m, hm⟩ : ∃ m, m = cap + 1 := ⟨_, rfl⟩
    obtain ⟨j, hj⟩ : ∃ j, j = i + 1 := ⟨_, rfl⟩
    obtain ⟨q, hq⟩ : ∃ q, q = m - i := ⟨_, rfl⟩
    have q0 : 0 < q := by omega
    have w1 : IntKind.i64.wrap ((cap : Int) + 1) = (m : Int) := by rw [IntKind.wrap_i64]; omega
    have w2 : IntKind.i64.wrap ((m : Int) - (i : Int)) = (q : Int) := by rw [IntKind.wrap_i64]; omega
    have w3 : IntKind.i64.wrap ((i : Int) + 1) = (j : Int) := by rw [IntKind.wrap_i64]; omega
    have c1 : (cap : Int) < (m : Int) := by omega
    have hiq : i + q = m := by omega
    have HIQ := Lib.hid hiq
    have HM := Lib.hid hm
    have HJ := Lib.hid hj
    have d1 : (i : Int) ≤ (m : Int) := by omega
    have d2 : i ≤ m := by omega
    have d3 : (j : Int) ≤ (m : Int) := by omega
    have d4 : j ≤ m := by omega
    have d5 : ¬ m = j := by omega
    have d6 : ¬ m = i := by omega
    have A1 := Lib.hid (show i + (m - i) = m by omega)
    have A2 := Lib.hid (show [u].length = Nat.min 1 (m - i) by rw [List.length_singleton]; show 1 = min 1 (m - i); omega)
    have A3 := Lib.hid (show j + (m - j) = m by omega)
    have A4 := Lib.hid (show i < m by omega)
    have A5 := Lib.hid (show j < m by omega)
    have A6 := Lib.hid (show (xs.drop i).length = Nat.min (cap - i) (m - j) by rw [List.length_drop, XL.out]; show cap - i = min (cap - i) (m - j); omega)
    have A7 := Lib.hid (show m * 16 ≤ 140737488355328 by omega)
    have A8 := Lib.hid (show m * 8 ≤ 140737488355328 by omega)
    have A9 := Lib.hid (show cap < m by omega)
    clear hq hm hj hiq
    have tok : True := trivial
    have tok2 : True := trivial
    have OL := Lib.hid (own_less HO.out i b7)
    go_enter Tryz.func178, Tryz.ntmps178
    go_wp2_with (first
      | (have _t := tok; at_builtin; refine app_grow appPtr Tryz.underlying3 rfl _ _ rfl B g i cap (xs.take i) OL.out q m HIQ.out q0 (by go_simp) (by go_simp) A9.out (by first | exact A7.out | exact A8.out) ?_; intro g2 cap2 zs w4 hg2 hzl hown2 hx4; have G2 := Lib.hid hg2; have ZL := Lib.hid hzl; have HO2 := Lib.hid hown2; have X4 := Lib.hid hx4; have hnc2 := Lib.hid (own_cap hown2); have e1 : i ≤ cap2 := Nat.le_trans d2 hnc2.out.1; have e2 : (i : Int) ≤ (cap2 : Int) := Int.ofNat_le.2 e1; have e3 : ¬ cap2 = i := Nat.ne_of_gt (Nat.lt_of_lt_of_le A4.out hnc2.out.1); have e4 : j ≤ cap2 := Nat.le_trans d4 hnc2.out.1; have e5 : (j : Int) ≤ (cap2 : Int) := Int.ofNat_le.2 e4; have e6 : ¬ cap2 = j := Nat.ne_of_gt (Nat.lt_of_lt_of_le A5.out hnc2.out.1); clear hg2 hzl hown2 hx4 tok _t)
      | (have _t := tok2; (with_reducible refine at_cpy rfl ?_); go_loud (refine copy_own rfl _ _ rfl Tryz.underlying120 IS.out w.heap.size g2 m cap2 (xs.take i ++ zs) HO2.out i (m - i) (cap2 - i) (by go_simp) A1.out ⟨gv, 0, none⟩ 1 1 (by go_simp) [u] A2.out (fun j v hj => ((XX.out.below X4.out).read j v hj)) U1.out ?_); intro w5 hown5 on5 hb5; have HO5 := Lib.hid hown5; have ON5 := Lib.hid on5; have X5 := Lib.hid (X4.out.from' hb5); clear hown5 on5 hb5 tok2 _t))

    refine wp_region_det_tail (fun W => W = w5.drew) 8 (by kernel_rfl) (by kernel_rfl) rfl ?_
    simp only [List.take_succ_cons, List.take_zero, List.drop_succ_cons, List.drop_zero]
    repeat (first
      | (refine det_step (fun K hK => ?_)
         apply Exists.intro
         refine ⟨Or.inl ⟨rfl, fun W hS => ?_⟩, ?_⟩
         · skip
           go_simp
           first
           | exact rfl
           | exact ⟨rfl, hS⟩
           | (fail)
         go_simp
         refine hK _ ?_
         clear hK K)
      | (refine det_step (fun K hK => ?_); refine det_no' rfl ?_; go_simp; refine hK _ ?_; clear hK K))
    refine det_nil ?_
    rintro W rfl
    have SRC := Lib.hid (show ∀ k v, (xs.drop i)[k]? = some v → w5.drew.cell? ((⟨g, i, none⟩ : Addr).add k) = some v from fun k v hk => by
      rw [List.getElem?_drop] at hk
      rw [show (⟨g, i, none⟩ : Addr).add k = ⟨g, i + k, none⟩ from by unfold Addr.add; split <;> simp_all]
      exact X5.out.cell (own_isBlk HO.out (i + k) v hk).1)
    have H1D := Lib.hid (show ∀ v ∈ xs.drop i, v.oneCell' = true from fun v hv => H1.out v (List.mem_of_mem_drop hv))
    have W5R := Lib.hid (owned_drew HO5.out)
    clear HO5
    go_wp2_with ((with_reducible refine at_cpy rfl ?_); go_loud (refine copy_own rfl _ _ rfl Tryz.underlying120 IS.out w.heap.size g2 m cap2 _ W5R.out j (m - j) (cap2 - j) (by go_simp) A3.out ⟨g, i, none⟩ (cap - i) (cap - i) (by go_simp) (xs.drop i) A6.out SRC.out H1D.out ?_); intro w6 hown6 on6 hb6; have HO6 := Lib.hid hown6; have X6 := Lib.hid (Below.trans X5.out.drew hb6); clear hown6 on6 hb6 SRC)
    go_ret
    have fin := HO6.out
    rw [HJ.out, ins_grow xs zs u i (by have := XL.out; omega) (by have := XL.out; have := ZL.out; have := HIQ.out; have := HM.out; omega), HM.out] at fin
    rw [HM.out]
    exact ⟨_, rfl, own_lower fin HB.out, below_lower X6.out HB.out, fun k hk _ => X6.out.block k hk⟩
  · obtain ⟨y, hy⟩ := own_more HO.out (by omega)
    obtain ⟨m, hm⟩ : ∃ m, m = n + 1 := ⟨_, rfl⟩
    obtain ⟨j, hj⟩ : ∃ j, j = i + 1 := ⟨_, rfl⟩
    rw [← hm] at hy
    have HY := Lib.hid hy
    have w1 : IntKind.i64.wrap ((n : Int) + 1) = (m : Int) := by rw [IntKind.wrap_i64]; omega
    have w3 : IntKind.i64.wrap ((i : Int) + 1) = (j : Int) := by rw [IntKind.wrap_i64]; omega
    have c1 : ¬ (cap : Int) < (m : Int) := by omega
    have c2 : (m : Int) ≤ (cap : Int) := by omega
    have c3 : m ≤ cap := by omega
    have HM := Lib.hid hm
    have HJ := Lib.hid hj
    have d1 : (i : Int) ≤ (m : Int) := by omega
    have d2 : i ≤ m := by omega
    have d3 : (j : Int) ≤ (m : Int) := by omega
    have d4 : j ≤ m := by omega
    have d5 : ¬ m = j := by omega
    have d6 : ¬ m = i := by omega
    have d7 : ¬ cap = j := by omega
    have d8 : (j : Int) ≤ (cap : Int) := by omega
    have d9 : j ≤ cap := by omega
    have A1 := Lib.hid (show i + (m - i) = m by omega)
    have A2 := Lib.hid (show [u].length = Nat.min 1 (m - i) by rw [List.length_singleton]; show 1 = min 1 (m - i); omega)
    have A3 := Lib.hid (show j + (m - j) = m by omega)
    have A6 := Lib.hid (show (xs.drop i).length = Nat.min (m - i) (m - j) by rw [List.length_drop, XL.out]; show n - i = min (m - i) (m - j); omega)
    obtain ⟨cur, hcur⟩ : ∃ cur, isBlk w g 123 cur ∧ cur.size = cap := by
      rcases HO.out.2 with ⟨h0, _⟩ | ⟨g', _, cur, hv, hBg, hh, _, _, hs, _⟩
      · cases h0
      · cases hv; exact ⟨cur, hh, by omega⟩
    have hov : ∀ lb cb, (callFunc 239 #[.slice (some ⟨gv, 0, none⟩) 1 1, .slice (some ⟨g, j, none⟩) lb cb]).run Tryz.prog w = .ok (.value (.bool false)) w := fun lb cb => by
      rw [run_callFunc_extern Tryz.func239 (by kernel_rfl) (by kernel_rfl) (by kernel_rfl) (e := Extern.SlicesOverlaps.overlaps #[120, 120] #[4]) (by kernel_rfl),
        Lib.run_overlaps_apart w 120 4 123 Tryz.underlying120 1 (fun W => by
          obtain ⟨_, _, _, i0, z, hi0, hz, hsz, _⟩ := appPtr
          simp [sizeOf, typeInfo, hi0, hsz]) ⟨gv, 0, none⟩ ⟨g, j, none⟩ 1 1 lb cb (fun e => GG.out e.symm) 123 123 1 cur.size XX.out.shape hcur.1.shape (by omega) (XX.out.frozen _) (XX.out.frozen _)]
      rfl
    clear hm hj hy hcur
    go_enter Tryz.func178, Tryz.ntmps178
    go_wp2_with (simp only [hov])
    refine wp_region_det_tail (fun W => W = w.drew) 8 (by kernel_rfl) (by kernel_rfl) rfl ?_
    simp only [List.take_succ_cons, List.take_zero, List.drop_succ_cons, List.drop_zero]
    repeat (first
      | (refine det_step (fun K hK => ?_)
         apply Exists.intro
         refine ⟨Or.inl ⟨rfl, fun W hS => ?_⟩, ?_⟩
         · skip
           go_simp
           first
           | exact rfl
           | exact ⟨rfl, hS⟩
           | (fail)
         go_simp
         refine hK _ ?_
         clear hK K)
      | (refine det_step (fun K hK => ?_); refine det_no' rfl ?_; go_simp; refine hK _ ?_; clear hK K))
    refine det_nil ?_
    rintro W rfl
    have SRC := Lib.hid (show ∀ k v, (xs.drop i)[k]? = some v → w.drew.cell? ((⟨g, i, none⟩ : Addr).add k) = some v from fun k v hk => by
      rw [List.getElem?_drop] at hk
      rw [show (⟨g, i, none⟩ : Addr).add k = ⟨g, i + k, none⟩ from by unfold Addr.add; split <;> simp_all]
      exact (own_isBlk HO.out (i + k) v hk).1)
    have H1D := Lib.hid (show ∀ v ∈ xs.drop i, v.oneCell' = true from fun v hv => H1.out v (List.mem_of_mem_drop hv))
    have YR := Lib.hid (owned_drew HY.out)
    have tok : True := trivial
    have tok2 : True := trivial
    clear hov
    go_wp2_with (first
      | (have _t := tok; (with_reducible refine at_cpy rfl ?_); refine copy_own rfl _ _ rfl Tryz.underlying120 IS.out B g m cap _ YR.out j (m - j) (cap - j) (by go_simp) A3.out ⟨g, i, none⟩ (m - i) (cap - i) (by go_simp) (xs.drop i) A6.out SRC.out H1D.out ?_; intro w6 hown6 on6 hb6; have HO6 := Lib.hid hown6; have X6 := Lib.hid (Below.trans (Below.refl B w).drew hb6); have N6 := Lib.hid ((Only.refl g w).drew.trans on6); clear hown6 on6 hb6 SRC tok _t)
      | (have _t := tok2; (with_reducible refine at_cpy rfl ?_); refine copy_own rfl _ _ rfl Tryz.underlying120 IS.out B g m cap _ HO6.out i (m - i) (cap - i) (by go_simp) A1.out ⟨gv, 0, none⟩ 1 1 (by go_simp) [u] A2.out (fun j v hj => (N6.out.blk XX.out (fun e => GG.out e.symm)).read j v hj) U1.out ?_; intro w7 hown7 on7 hb7; have HO7 := Lib.hid hown7; have X7 := Lib.hid (Below.trans X6.out hb7); have N7 := Lib.hid (N6.out.trans on7); clear hown7 on7 hb7 tok2 _t))
    go_ret
    have fin := HO7.out
    rw [HJ.out, ins_room xs y u i (by have := XL.out; omega), HM.out] at fin
    rw [HM.out]
    exact ⟨_, rfl, fin, X7.out, fun k hk hne => N7.out.block k hk (fun e => hne (by rw [e]; rfl))⟩
end Go.Proofs.YtmlfnidckfeebaaGreatDoor
namespace Go.Proofs.YtmlfnidckfeebaaGreatDoor
open Go.RowKit Go.Shelf
attribute [local go_sem] yUpon
namespace Sp
theorem fit_kept {leaf : List Ver} {kids : List (Bs × T)} (h : ∀ t, kept leaf kids = some t → Fit t) : Fit (.mk leaf kids) := by
  by_cases h0 : leaf = [] ∧ kids = []
  · obtain ⟨rfl, rfl⟩ := h0
    refine ⟨by decide, ?_, by decide, ?_, by decide⟩
    · intro v h; cases h
    · intro v h; cases h
  · exact h _ (if_neg h0)
theorem with_size (ps : List Bs) (l : List Ver) (x : Option T) (hx : ∀ t, x = some t → Ok t) (n : Nat) (hn : ∀ t, x = some t → sizeT t ≤ n) : ∀ t, withO x ps l = some t → sizeT t ≤ n + 1 := by
  intro t h
  have e := with_entries ps l x hx
  rw [h] at e
  have h2 := setE_len ps l (entriesO x)
  rw [← e] at h2
  rw [sizeT_len]
  have h3 : (entriesO x).length ≤ n := by
    cases x with
    | none => exact Nat.zero_le _
    | some s => rw [show entriesO (some s) = entries s from rfl, ← sizeT_len]; exact hn s rfl
  have h4 : (entriesO (some t)).length = (entries t).length := rfl
  omega
theorem with_fit (l : List Ver) (hl : l ≠ [] → Sp.leaf l = 0) (ps : List Bs) (x : Option T) (hp : ∀ n ∈ ps, name n = true) (hx : ∀ t, x = some t → Ok t) (hn : ∀ t, x = some t → sizeT t ≤ 900000) : ∀ t, withO x ps l = some t → Fit t :=
  fun t h => ok_fit (with_ok l hl ps x hp hx t h).2 (Nat.le_trans (with_size ps l x hx 900000 hn t h) (by decide))
theorem kid_size : ∀ (k : List (Bs × T)) (n : Bs) (t : T), kid k n = some t → sizeT t ≤ sizeL k
  | [], _, _, h => by cases h
  | (m, s) :: r, n, t, h => by
    rw [kid] at h
    rw [sizeL]
    split at h
    · cases h; omega
    · have := kid_size r n t h; omega
theorem upd_del (k : List (Bs × T)) (t : Bs) (p : Nat) (hp : p = pos (k.map (·.1)) t) (hr : Rise k) (h : (k.map (·.1))[p]? = some t) : upd k t none = k.eraseIdx p := by
  rw [upd_pos k t none hr, ← hp, if_pos h]
theorem upd_set (k : List (Bs × T)) (t : Bs) (u : T) (p : Nat) (hp : p = pos (k.map (·.1)) t) (hr : Rise k) (h : (k.map (·.1))[p]? = some t) : upd k t (some u) = k.set p (t, u) := by
  rw [upd_pos k t (some u) hr, ← hp, if_pos h]
theorem upd_ins (k : List (Bs × T)) (t : Bs) (u : T) (p : Nat) (hp : p = pos (k.map (·.1)) t) (hr : Rise k) (h : ¬ (k.map (·.1))[p]? = some t) : upd k t (some u) = k.take p ++ (t, u) :: k.drop p := by
  rw [upd_pos k t (some u) hr, ← hp, if_neg h]
theorem upd_same (k : List (Bs × T)) (t : Bs) (p : Nat) (hp : p = pos (k.map (·.1)) t) (hr : Rise k) (h : ¬ (k.map (·.1))[p]? = some t) : upd k t none = k := by
  rw [upd_pos k t none hr, ← hp, if_neg h]
end Sp
theorem kids_del {w : World} {gs : List Nat} {k : List (Sp.Bs × Sp.T)} (hl : gs.length = k.length) (p : Nat) (hp : p < k.length) (h : ∀ i (h : i < k.length), InnerAt w (gs.getD i 0) (k[i]).2) :
    (gs.eraseIdx p).length = (k.eraseIdx p).length ∧ ∀ i (h : i < (k.eraseIdx p).length), InnerAt w ((gs.eraseIdx p).getD i 0) ((k.eraseIdx p)[i]).2 := by
  refine ⟨by rw [List.length_eraseIdx, List.length_eraseIdx, hl], fun i hi => ?_⟩
  rw [List.length_eraseIdx, if_pos hp] at hi
  rw [List.getElem_eraseIdx]
  have hg : (gs.eraseIdx p).getD i 0 = if i < p then gs.getD i 0 else gs.getD (i + 1) 0 := by
    rw [List.getD_eq_getElem?_getD, List.getElem?_eraseIdx]
    split <;> rw [List.getD_eq_getElem?_getD]
  rw [hg]
  split
  · exact h i (by omega)
  · exact h (i + 1) (by omega)
theorem kids_set {w : World} {gs : List Nat} {k : List (Sp.Bs × Sp.T)} (hl : gs.length = k.length) (p : Nat) (hp : p < k.length) (h : ∀ i (h : i < k.length), InnerAt w (gs.getD i 0) (k[i]).2) (g : Nat) (n : Sp.Bs) (u : Sp.T) (hu : InnerAt w g u) :
    (gs.set p g).length = (k.set p (n, u)).length ∧ ∀ i (h : i < (k.set p (n, u)).length), InnerAt w ((gs.set p g).getD i 0) ((k.set p (n, u))[i]).2 := by
  refine ⟨by rw [List.length_set, List.length_set, hl], fun i hi => ?_⟩
  rw [List.length_set] at hi
  rw [List.getElem_set]
  by_cases hip : p = i
  · subst hip
    rw [if_pos rfl, List.getD_eq_getElem?_getD, List.getElem?_set_self (by omega)]
    exact hu
  · rw [if_neg hip, List.getD_eq_getElem?_getD, List.getElem?_set_ne hip, ← List.getD_eq_getElem?_getD]
    exact h i hi
theorem kids_ins {w : World} {gs : List Nat} {k : List (Sp.Bs × Sp.T)} (hl : gs.length = k.length) (p : Nat) (hp : p ≤ k.length) (h : ∀ i (h : i < k.length), InnerAt w (gs.getD i 0) (k[i]).2) (g : Nat) (n : Sp.Bs) (u : Sp.T) (hu : InnerAt w g u) :
    (gs.take p ++ g :: gs.drop p).length = (k.take p ++ (n, u) :: k.drop p).length ∧ ∀ i (h : i < (k.take p ++ (n, u) :: k.drop p).length), InnerAt w ((gs.take p ++ g :: gs.drop p).getD i 0) ((k.take p ++ (n, u) :: k.drop p)[i]).2 := by
  refine ⟨by simp; omega, fun i hi => ?_⟩
  have hi2 : i < k.length + 1 := by simp at hi; omega
  have hg : ∀ {α : Type} (xs : List α) (x : α), xs.length = k.length → (xs.take p ++ x :: xs.drop p)[i]? = if i < p then xs[i]? else if i = p then some x else xs[i - 1]? := by
    intro α xs x hx
    have htl : (xs.take p).length = p := by simp; omega
    rw [List.getElem?_append, htl]
    by_cases h1 : i < p
    · rw [if_pos h1, if_pos h1, List.getElem?_take, if_pos h1]
    · rw [if_neg h1, if_neg h1]
      by_cases h2 : i = p
      · subst h2; simp
      · rw [if_neg h2, show i - p = (i - p - 1) + 1 by omega, List.getElem?_cons_succ, List.getElem?_drop, show p + (i - p - 1) = i - 1 by omega]
  have e1 := hg gs g (by omega)
  have e2 := hg k (n, u) rfl
  rw [List.getElem?_eq_getElem hi] at e2
  rw [List.getD_eq_getElem?_getD, e1]
  by_cases h1 : i < p
  · rw [if_pos h1] at e2 ⊢
    rw [List.getElem?_eq_getElem (by omega)] at e2
    rw [Option.some.inj e2, ← List.getD_eq_getElem?_getD]
    exact h i (by omega)
  · rw [if_neg h1] at e2 ⊢
    by_cases h2 : i = p
    · rw [if_pos h2] at e2 ⊢
      rw [Option.some.inj e2]
      exact hu
    · rw [if_neg h2] at e2 ⊢
      rw [List.getElem?_eq_getElem (by omega)] at e2
      rw [Option.some.inj e2, ← List.getD_eq_getElem?_getD]
      exact h (i - 1) (by omega)
theorem own_blk {w w' : World} {B n : Nat} {e : TypeId} {size : Nat} {v : Value} {xs : List Value} (h : w.ownsRow B e size v n xs) (hk : ∀ k, v.ownBlock = some k → w'.heap[k]? = w.heap[k]?) : w'.ownsRow B e size v n xs := by
  refine ⟨h.1, ?_⟩
  rcases h.2 with h | ⟨g, cap, cur, rfl, h2, h3, h4⟩
  · exact .inl h
  · exact .inr ⟨g, cap, cur, rfl, h2, (hk g rfl).trans h3, h4⟩
theorem own_ext {w w' : World} {B n : Nat} {e : TypeId} {size : Nat} {v : Value} {xs : List Value} (h : w.ownsRow B e size v n xs) (x : Ext w w') : w'.ownsRow B e size v n xs := own_blk h fun k hk => x.block k (h.lt k hk).2
theorem own_apart {w w' : World} {g B n : Nat} {e : TypeId} {size : Nat} {v : Value} {xs : List Value} (h : w.ownsRow B e size v n xs) (x : Only g w w') (hne : v.ownBlock ≠ some g) : w'.ownsRow B e size v n xs :=
  own_blk h fun k hk => x.block k (h.lt k hk).2 (fun e => hne (by rw [hk, e]))
theorem own_ne {w : World} {B1 B2 n1 n2 s1 s2 : Nat} {e1 e2 : TypeId} {v1 v2 : Value} {xs ys : List Value} (h1 : w.ownsRow B1 e1 s1 v1 n1 xs) (h2 : w.ownsRow B2 e2 s2 v2 n2 ys) (hne : e1 ≠ e2) (k : Nat) (hk : v2.ownBlock = some k) : v1.ownBlock ≠ some k := by
  intro hk1
  rcases h1.2 with ⟨rfl, _⟩ | ⟨g1, c1, cur1, rfl, _, hh1, _⟩
  · cases hk1
  rcases h2.2 with ⟨rfl, _⟩ | ⟨g2, c2, cur2, rfl, _, hh2, _⟩
  · cases hk
  obtain rfl : g1 = k := Option.some.inj hk1
  obtain rfl : g2 = g1 := Option.some.inj hk
  rw [hh1] at hh2
  injection hh2 with h3
  injection h3 with _ h5
  exact hne h5
theorem own_cells {w : World} {B n : Nat} {e : TypeId} {size : Nat} {A : Option Addr} {cap : Nat} {xs : List Value} (h : w.ownsRow B e size (.slice A n cap) n xs) : Cells w A xs := by
  obtain ⟨A', c', hv, hc⟩ := own_read h
  injection hv with h1
  subst h1
  exact hc
section
variable {P : Program} {ops : Array Oper}
theorem bslice_new {rest : List Oper} {o : Oper} {a : Act} {w : World} {Q : Exit → Act → World → Prop} (hg : o.guard = none) (t e : TypeId) (x : Operand) (ho : o.op = .buildSlice t 1 #[(0, x)]) {size bytes : Nat} (hst : AppStat P t e size bytes) (hs : size ≤ 1000)
    (cells : Array Value) (hx : (a.eval x).cells = cells) (hc : cells.size = size)
    (h : ∀ g w', w.heap.size ≤ g → isBlk w' g e cells → Ext w w' → wpList P ops Q rest (a.put o.dst (.slice (some ⟨g, 0, none⟩) 1 1)) w') : wpList P ops Q (o :: rest) a w :=
  bslice_one hg t e x ho hst hs cells hx hc (h _ _ (Nat.le_refl _) (heap_alloc_new w _) (Ext.alloc _ _))
end
theorem strsC_one (l : List Sp.Bs) : ∀ u ∈ strsC l, u.oneCell' = true := by
  intro u hu
  obtain ⟨s, _, rfl⟩ := List.mem_map.1 hu
  rfl
theorem ptrsC_one (l : List Nat) : ∀ u ∈ ptrsC l, u.oneCell' = true := by
  intro u hu
  obtain ⟨s, _, rfl⟩ := List.mem_map.1 hu
  rfl
theorem map_erase {α β : Type} (f : α → β) : ∀ (l : List α) (q : Nat), (l.eraseIdx q).map f = (l.map f).eraseIdx q
  | [], _ => rfl
  | _ :: _, 0 => rfl
  | a :: l, q + 1 => by
    show f a :: (l.eraseIdx q).map f = f a :: (l.map f).eraseIdx q
    rw [map_erase f l q]
theorem names_ins (k : List (Sp.Bs × Sp.T)) (q : Nat) (p : Sp.Bs) (u : Sp.T) : strsC ((k.take q ++ (p, u) :: k.drop q).map (·.1)) = (strsC (k.map (·.1))).take q ++ .string (strOf p) :: (strsC (k.map (·.1))).drop q := by
  simp [strsC, List.map_take, List.map_drop]
theorem ptrs_ins (gs : List Nat) (q g : Nat) : ptrsC (gs.take q ++ g :: gs.drop q) = (ptrsC gs).take q ++ .pointer (some ⟨g, 0, none⟩) :: (ptrsC gs).drop q := by
  simp [ptrsC, List.map_take, List.map_drop]
theorem OptAt.ptr {w : World} {v : Value} {o : Option Sp.T} (h : OptAt w v o) : ∃ oa, v = .pointer oa := by
  rcases h with ⟨_, rfl⟩ | ⟨g, t, _, rfl, _⟩
  · exact ⟨_, rfl⟩
  · exact ⟨_, rfl⟩
theorem getD_ok {x : Option Sp.T} (h : ∀ t, x = some t → Sp.Ok t) : Sp.Ok (x.getD .nil) := by
  cases x with
  | none => exact ⟨fun h => absurd rfl h, List.Pairwise.nil, trivial⟩
  | some t => exact h t rfl
theorem ok_rise : ∀ {t : Sp.T}, Sp.Ok t → Sp.Rise t.kids ∧ Sp.OkL t.kids
  | .mk _ _, h => ⟨h.2.1, h.2.2⟩
set_option maxRecDepth 100000 in
set_option maxHeartbeats 8000000 in
theorem with_nil (l : List Sp.Ver) (hl : l ≠ [] → Sp.leaf l = 0) (x : Option Sp.T) (v : Value) (Ap : Option Addr) (cp : Nat) (Al : Option Addr) (cl : Nat) (w : World) (hx : OptAt w v x) (hok : ∀ t, x = some t → Sp.Ok t) (hsz : ∀ t, x = some t → Sp.sizeT t ≤ 900000)
    (hN : Nams w Ap []) (hnm : ∀ n ∈ ([] : List Sp.Bs), Sp.name n = true) (hV : Vers w Al l) (K : KeysAt w 2) :
    Calls Tryz.prog 111 #[v, .slice Ap 0 cp, .slice Al l.length cl] w fun e w' => ∃ v', e = .returned v' ∧ OptAt w' v' (Sp.withO x [] l) ∧ Ext w w' := by
  obtain ⟨oa, rfl⟩ := hx.ptr
  have HX := Lib.hid hx
  have HOK := Lib.hid hok
  have HSZ := Lib.hid hsz
  have HN := Lib.hid hN
  have HNM := Lib.hid hnm
  have HV := Lib.hid hV
  have KK := Lib.hid K
  clear hx hok hsz hN hnm hV K
  go_enter Tryz.func111, Tryz.ntmps111
  go_upto_if 13 with fail
  go_cut [0, 12, 13] (fun v0 _ _ wx => ∃ g A B C c c' c'' gs arr, v0 = .pointer (some ⟨g, 0, none⟩) ∧ PreAt wx g (x.getD .nil) A B C c c' c'' gs arr ∧ Ext w wx)
  case first =>
    rcases HX.out with ⟨rfl, hv⟩ | ⟨g1, t, rfl, hv, hi⟩
    · obtain rfl : oa = none := by injection hv
      have tokB : True := trivial
      clear hv HX
      go_wp2_with (have _t := tokB; ((with_reducible refine at_box (t := 122) rfl ?_); refine box_new rfl (cs := Tryz.zeroCells122) (t := 122) (by first | (go_simp; done) | (go_simp; rfl)) ?_; intro g2 w2 hg2 hx2 hb2; have H2 := Lib.hid hx2; have B2 := Lib.hid (show Ext w w2 from hb2); clear tokB _t hx2 hb2 hg2))
      go_meet
      case rel =>
        have p := PartsAt.nil w2
        exact ⟨g2, none, none, none, 0, 0, 0, [], _, rfl, ⟨H2.out, by kernel_rfl, by kernel_rfl, by kernel_rfl, by kernel_rfl, p.V, p.N, p.L, p.P, p.K⟩, B2.out⟩
    · obtain rfl : oa = some ⟨g1, 0, none⟩ := by injection hv
      obtain ⟨A, B, C, c, c', c'', gs, hp⟩ := hi.pre
      have HP := Lib.hid hp
      clear hv HX hi hp
      go_wp2
      go_meet
      case rel => exact ⟨g1, A, B, C, c, c', c'', gs, _, rfl, HP.out, Ext.refl _⟩
  case rest =>
    obtain ⟨g, A, B, C, c, c', c'', gs, arr, rfl, hp, hb⟩ := hcut
    obtain ⟨wr, hwr⟩ : ∃ wr, wr = wc := ⟨_, rfl⟩
    rw [← hwr] at hp hb ⊢
    obtain ⟨t, ht⟩ : ∃ t, t = x.getD .nil := ⟨_, rfl⟩
    rw [← ht] at hp
    have HP := Lib.hid hp
    have HB := Lib.hid hb
    have HT := Lib.hid ht
    have pp : PartsAt wr.drew t A B C gs := hp.parts.ext (Ext.refl wr).drew
    have KC := Lib.hid (kept_calls (.mk l t.kids) Al B C cl c' c'' gs wr.drew ⟨(HV.out.ext hb).ext (Ext.refl wr).drew, pp.N, pp.L, pp.P, pp.K⟩ (Sp.fit_kept (fun u hu => Sp.with_fit l hl [] x HNM.out HOK.out HSZ.out u (by rw [Sp.withO, ← ht]; exact hu))) ((KK.out.ext hb).ext (Ext.refl wr).drew))
    have f1 := (hp.blk.cell 1).trans hp.c1
    have f2 := (hp.blk.cell 2).trans hp.c2
    clear hp hb ht hwr pp
    go_wp2_with fail
    refine wp_region_det_tail (fun W => W = wr.drew) 9 (by kernel_rfl) (by kernel_rfl) rfl ?_
    simp only [List.take_succ_cons, List.take_zero, List.drop_succ_cons, List.drop_zero]
    repeat (first
      | (refine det_step (fun K hK => ?_)
         apply Exists.intro
         refine ⟨Or.inl ⟨rfl, fun W hS => ?_⟩, ?_⟩
         · have hz : W = wr.drew := hS; subst hz
           go_simp
           first
           | exact rfl
           | exact ⟨rfl, hS⟩
           | (fail)
         go_simp
         refine hK _ ?_
         clear hK K)
      | (refine det_step (fun K hK => ?_); refine det_no' rfl ?_; go_simp; refine hK _ ?_; clear hK K))
    refine det_nil ?_
    rintro W rfl
    go_wp2_with fail
    refine KC.out.mono ?_
    rintro e w1 ⟨v1, rfl, ho, hb1⟩
    go_wp2
    go_ret
    exact ⟨v1, rfl, by rw [Sp.withO, ← HT.out]; exact ho, HB.out.trans (Below.trans (Below.refl _ _).drew hb1)⟩
set_option maxRecDepth 100000 in
set_option maxHeartbeats 8000000 in
theorem with_cons (l : List Sp.Ver) (hl : l ≠ [] → Sp.leaf l = 0) (p : Sp.Bs) (ps : List Sp.Bs) (Al : Option Addr) (cl : Nat)
    (IH : ∀ (x : Option Sp.T) (v : Value) (Ap : Option Addr) (cp : Nat) (w : World), OptAt w v x → (∀ t, x = some t → Sp.Ok t) → (∀ t, x = some t → Sp.sizeT t ≤ 900000) → Nams w Ap ps → ps.length ≤ cp → Vers w Al l → KeysAt w 2 →
      Calls Tryz.prog 111 #[v, .slice Ap ps.length cp, .slice Al l.length cl] w fun e w' => ∃ v', e = .returned v' ∧ OptAt w' v' (Sp.withO x ps l) ∧ Ext w w')
    (x : Option Sp.T) (v : Value) (Ap : Option Addr) (cp : Nat) (w : World) (hx : OptAt w v x) (hok : ∀ t, x = some t → Sp.Ok t) (hsz : ∀ t, x = some t → Sp.sizeT t ≤ 900000)
    (hN : Nams w Ap (p :: ps)) (hcap : ps.length + 1 ≤ cp) (hnm : ∀ n ∈ p :: ps, Sp.name n = true) (hps : ps.length ≤ 1000) (hV : Vers w Al l) (K : KeysAt w 2) :
    Calls Tryz.prog 111 #[v, .slice Ap (ps.length + 1) cp, .slice Al l.length cl] w fun e w' => ∃ v', e = .returned v' ∧ OptAt w' v' (Sp.withO x (p :: ps) l) ∧ Ext w w' := by
  have HIH := Lib.hid IH
  clear IH
  have pl : ps.length + 1 ≠ 0 := Nat.succ_ne_zero _
  have pc1 : (ps.length : Int) + 1 ≤ (cp : Int) := by omega
  have pc2 : (1 : Int) ≤ (cp : Int) := by omega
  have pc3 : 1 ≤ cp := by omega
  have pc4 : (1 : Int) ≤ (ps.length : Int) + 1 := by omega
  have HCAP := Lib.hid hcap
  have pl2 : (((ps.length + 1 : Nat) : Int) == 0) = false := by rw [beq_eq_false_iff_ne]; omega
  obtain ⟨oa, rfl⟩ := hx.ptr
  have HX := Lib.hid hx
  have HOK := Lib.hid hok
  have HSZ := Lib.hid hsz
  have HN := Lib.hid hN
  have HNM := Lib.hid hnm
  have HV := Lib.hid hV
  have KK := Lib.hid K
  clear hx hok hsz hN hnm hV K
  go_enter Tryz.func111, Tryz.ntmps111
  go_upto_if 13 with fail
  go_cut [0, 12, 13] (fun v0 _ _ wx => ∃ g A B C c c' c'' gs arr, v0 = .pointer (some ⟨g, 0, none⟩) ∧ PreAt wx g (x.getD .nil) A B C c c' c'' gs arr ∧ Ext w wx)
  case first =>
    rcases HX.out with ⟨rfl, hv⟩ | ⟨g1, t, rfl, hv, hi⟩
    · obtain rfl : oa = none := by injection hv
      have tokB : True := trivial
      clear hv HX
      go_wp2_with (have _t := tokB; ((with_reducible refine at_box (t := 122) rfl ?_); refine box_new rfl (cs := Tryz.zeroCells122) (t := 122) (by first | (go_simp; done) | (go_simp; rfl)) ?_; intro g2 w2 hg2 hx2 hb2; have H2 := Lib.hid hx2; have B2 := Lib.hid (show Ext w w2 from hb2); clear tokB _t hx2 hb2 hg2))
      go_meet
      case rel =>
        have p := PartsAt.nil w2
        exact ⟨g2, none, none, none, 0, 0, 0, [], _, rfl, ⟨H2.out, by kernel_rfl, by kernel_rfl, by kernel_rfl, by kernel_rfl, p.V, p.N, p.L, p.P, p.K⟩, B2.out⟩
    · obtain rfl : oa = some ⟨g1, 0, none⟩ := by injection hv
      obtain ⟨A, B, C, c, c', c'', gs, hp⟩ := hi.pre
      have HP := Lib.hid hp
      clear hv HX hi hp
      go_wp2
      go_meet
      case rel => exact ⟨g1, A, B, C, c, c', c'', gs, _, rfl, HP.out, Ext.refl _⟩
  case rest =>
    obtain ⟨g, A, B, C, c, c', c'', gs, arr, rfl, hp, hb⟩ := hcut
    obtain ⟨wr, hwr⟩ : ∃ wr, wr = wc := ⟨_, rfl⟩
    rw [← hwr] at hp hb ⊢
    obtain ⟨t, ht⟩ : ∃ t, t = x.getD .nil := ⟨_, rfl⟩
    rw [← ht] at hp
    have OKT := Lib.hid (show Sp.Ok t by rw [ht]; exact getD_ok HOK.out)
    have SZT := Lib.hid (show Sp.sizeT t ≤ 900000 by
      rw [ht]
      cases x with
      | none => exact Nat.zero_le _
      | some u => exact HSZ.out u rfl)
    have RS := Lib.hid (ok_rise OKT.out).1
    have OL := Lib.hid (ok_rise OKT.out).2
    have FT := Lib.hid (Sp.ok_fit OKT.out (Nat.le_trans SZT.out (by decide)))
    have HP := Lib.hid hp
    have HB := Lib.hid hb
    have HT := Lib.hid ht
    clear hp hb ht hwr
    obtain ⟨ab, ao, rfl, hnn⟩ := HN.out.at (by simp)
    have q0 : wr.cell? ⟨ab, ao, none⟩ = some (.string (strOf p)) := HB.out.cell (hnn 0 (by simp))
    have Q0 := Lib.hid q0
    clear hnn
    obtain ⟨o7, ho7⟩ : ∃ o7, o7 = Sp.withO (Sp.kid t.kids p) ps l := ⟨_, rfl⟩
    have HO7 := Lib.hid ho7
    go_upto_region 5 with fail
    go_cut [7] (fun v7 wx => ∃ ob, v7 = .pointer ob ∧ OptAt wx (.pointer ob) o7 ∧ Ext wr wx)
    case first =>
      have IK := Lib.hid (ikid_pre t g p wr.drew A B C c c' c'' gs arr (HP.out.ext (Ext.refl wr).drew) RS.out FT.out.2.2.1)
      have CO := Lib.hid (show ∀ o W, OptAt W (.pointer o) (Sp.kid t.kids p) → Ext wr W → ∀ Aq cq, Nams W Aq ps → ps.length ≤ cq → Calls Tryz.prog 111 #[.pointer o, .slice Aq ps.length cq, .slice Al l.length cl] W fun e w' => ∃ v', e = .returned v' ∧ OptAt w' v' o7 ∧ Ext W w' from fun o W ho e Aq cq hn hcq => by
        rw [HO7.out]
        exact HIH.out (Sp.kid t.kids p) _ Aq cq W ho (fun u hu => Sp.kid_ok t.kids p u OL.out hu) (fun u hu => Nat.le_trans (Sp.kid_size t.kids p u hu) (by have := Sp.sizeT_n0 t; have := SZT.out; omega)) hn hcq (HV.out.ext (HB.out.trans e)) (KK.out.ext (HB.out.trans e)))
      have NN := Lib.hid (show ∀ W, Ext wr W → Nams W (some ⟨ab, ao + 1, none⟩) ps from fun W e hne => by
        obtain ⟨g0, o0, hA, hc⟩ := (HN.out.ext (HB.out.trans e)) (by simp [strsC])
        cases hA
        refine ⟨ab, ao + 1, rfl, fun j u hj => ?_⟩
        have := hc (j + 1) u (by simpa [strsC] using hj)
        rwa [show ao + (j + 1) = ao + 1 + j by omega] at this)
      have tokL : True := trivial
      have tokM : True := trivial
      by_cases hcp : cp = 1
      · have hps0 : ps = [] := List.eq_nil_of_length_eq_zero (by omega)
        subst hps0
        subst hcp
        have NE := Lib.hid (show ∀ W Aq, Nams W Aq ([] : List Sp.Bs) from fun W Aq => Cells.nil _ _)
        go_region_law (first
          | (have _tL := tokL; refine step_call rfl 156 #[.pointer (some ⟨g, 0, none⟩), .string (strOf p)] (by go_simp) IK.out ?_; rintro e w3 ⟨v3, rfl, ho3, hb3⟩; obtain ⟨ob, rfl⟩ := ho3.ptr; have O3 := Lib.hid ho3; have B3 := Lib.hid (show Ext wr w3 from Below.trans (Below.refl _ _).drew hb3); clear ho3 hb3 tokL _tL; refine ⟨_, rfl, ?_⟩)
          | (have _tM := tokM; refine step_call rfl 111 #[.pointer ob, .slice (some ⟨ab, ao, none⟩) 0 0, .slice Al l.length cl] (by go_simp) (CO.out ob w3 O3.out B3.out _ _ (NE.out w3 _) (Nat.le_refl _)) ?_; rintro e w4 ⟨v4, rfl, ho4, hb4⟩; obtain ⟨oc, rfl⟩ := ho4.ptr; have O4 := Lib.hid ho4; have B4 := Lib.hid (show Ext wr w4 from B3.out.trans hb4); clear ho4 hb4 tokM _tM; refine ⟨_, rfl, ?_⟩))
        all_goals (
          go_wp2
          go_meet
          case rel => exact ⟨oc, rfl, O4.out, B4.out⟩)
      · have LC := Lib.hid (show ps.length ≤ cp - 1 by omega)
        go_region_law (first
          | (have _tL := tokL; refine step_call rfl 156 #[.pointer (some ⟨g, 0, none⟩), .string (strOf p)] (by go_simp) IK.out ?_; rintro e w3 ⟨v3, rfl, ho3, hb3⟩; obtain ⟨ob, rfl⟩ := ho3.ptr; have O3 := Lib.hid ho3; have B3 := Lib.hid (show Ext wr w3 from Below.trans (Below.refl _ _).drew hb3); clear ho3 hb3 tokL _tL; refine ⟨_, rfl, ?_⟩)
          | (have _tM := tokM; refine step_call rfl 111 #[.pointer ob, .slice (some ⟨ab, ao + 1, none⟩) ps.length (cp - 1), .slice Al l.length cl] (by go_simp) (CO.out ob w3 O3.out B3.out _ _ (NN.out w3 B3.out) LC.out) ?_; rintro e w4 ⟨v4, rfl, ho4, hb4⟩; obtain ⟨oc, rfl⟩ := ho4.ptr; have O4 := Lib.hid ho4; have B4 := Lib.hid (show Ext wr w4 from B3.out.trans hb4); clear ho4 hb4 tokM _tM; refine ⟨_, rfl, ?_⟩))
        all_goals (
          go_wp2
          go_meet
          case rel => exact ⟨oc, rfl, O4.out, B4.out⟩)
    case rest =>
      obtain ⟨ob, rfl, ho, hb⟩ := hcut
      obtain ⟨wx, hwx⟩ : ∃ wx, wx = wc := ⟨_, rfl⟩
      rw [← hwx] at ho hb ⊢
      have O7 := Lib.hid ho
      have BX := Lib.hid hb
      have PX := Lib.hid (HP.out.ext hb)
      obtain ⟨q, hq⟩ : ∃ q, q = Sp.pos (t.kids.map (·.1)) p := ⟨_, rfl⟩
      have hlen : (t.kids.map (·.1)).length = t.kids.length := List.length_map ..
      have HQ := Lib.hid hq
      have QL := Lib.hid (show q ≤ t.kids.length by rw [hq, ← hlen]; exact Sp.pos_le _ _)
      obtain ⟨bb, hbb⟩ : ∃ bb : Bool, bb = decide ((t.kids.map (·.1))[q]? = some p) := ⟨_, rfl⟩
      have HBB := Lib.hid hbb
      have BC := Lib.hid (show ∀ W, Ext wx W → Calls Tryz.prog 172 #[.slice B t.kids.length c', .string (strOf p)] W fun e w' => e = .returned (.tuple #[.int .i64 q, .bool bb]) ∧ Ext W w' from fun W e => by
        have := bin_calls (t.kids.map (fun x : Sp.Bs × Sp.T => x.1)) p q B c' W (PX.out.N.ext e) (by rw [hlen]; have := FT.out.2.2.1; omega) (by rw [hq]; exact Sp.pos_le _ _) (by rw [hq]; exact Sp.pos_less (t.kids.map (fun x : Sp.Bs × Sp.T => x.1)) p RS.out)
        rwa [hlen, ← hbb] at this)
      have X0 := Lib.hid (show wx.cell? ⟨ab, ao, none⟩ = some (.string (strOf p)) from BX.out.cell Q0.out)
      clear ho hb hwx hq hbb q0 ho7
      go_upto_region 6 with fail
      go_cut [8, 9] (fun v8 v9 wy => v8 = .int .i64 q ∧ v9 = .bool bb ∧ Ext wx wy)
      case first =>
        have f1 := (PX.out.blk.cell 1).trans PX.out.c1
        have x0 := X0.out
        have tokL : True := trivial
        go_region_law (have _tL := tokL; refine step_call rfl 172 #[.slice B t.kids.length c', .string (strOf p)] (by go_simp) (BC.out wx.drew (Ext.refl wx).drew) ?_; rintro e w3 ⟨rfl, hb3⟩; have B3 := Lib.hid (show Ext wx w3 from Below.trans (Below.refl _ _).drew hb3); clear hb3 tokL _tL; refine ⟨_, rfl, ?_⟩)
        all_goals (
          go_wp2
          go_meet
          case rel => exact ⟨rfl, rfl, B3.out⟩)
      case rest =>
        obtain ⟨rfl, rfl, hby⟩ := hcut
        obtain ⟨wy, hwy⟩ : ∃ wy, wy = wc := ⟨_, rfl⟩
        rw [← hwy] at hby ⊢
        have BY := Lib.hid hby
        have PY := Lib.hid (PX.out.ext hby)
        clear hby hwy
        go_upto_region 7 with fail
        go_cut [10, 11] (fun v10 v11 wz => wz.ownsRow wy.heap.size 9 1 v10 t.kids.length (strsC (t.kids.map (·.1))) ∧ wz.ownsRow wy.heap.size 123 1 v11 t.kids.length (ptrsC gs) ∧ Ext wy wz)
        case first =>
          have f1 := (PY.out.blk.cell 1).trans PY.out.c1
          have f2 := (PY.out.blk.cell 2).trans PY.out.c2
          have CS := Lib.hid (cloneStr (strsC (t.kids.map (fun x : Sp.Bs × Sp.T => x.1))) t.kids.length c' B wy.drew (PY.out.N.ext (Ext.refl wy).drew) (by rw [strsC, List.length_map, hlen, Nat.mul_one]) (strsC_one _) (by have := FT.out.2.2.1; omega))
          have CP := Lib.hid (show ∀ W, Ext wy W → _ from fun W e => clonePtr (ptrsC gs) t.kids.length c'' C W (PY.out.P.ext e) (by rw [ptrsC, List.length_map, PY.out.L, Nat.mul_one]) (ptrsC_one _) (by have := FT.out.2.2.1; omega))
          have tokL : True := trivial
          have tokM : True := trivial
          go_region_law (first
            | (have _tL := tokL; refine step_call rfl 173 #[.slice B t.kids.length c'] (by go_simp) CS.out ?_; rintro e w3 ⟨v3, rfl, ho3, hb3⟩; have O3 := Lib.hid ho3; have B3 := Lib.hid (show Ext wy w3 from Below.trans (Below.refl _ _).drew hb3); have f2 := ((PY.out.ext B3.out).blk.cell 2).trans PY.out.c2; clear ho3 hb3 tokL _tL; refine ⟨_, rfl, ?_⟩)
            | (have _tM := tokM; refine step_call rfl 174 #[.slice C t.kids.length c''] (by go_simp) (CP.out w3 B3.out) ?_; rintro e w4 ⟨v4, rfl, ho4, hb4⟩; have O4 := Lib.hid (own_lower ho4 B3.out.size); have OO3 := Lib.hid (own_ext O3.out hb4); have B4 := Lib.hid (show Ext wy w4 from B3.out.trans hb4); clear ho4 hb4 tokM _tM; refine ⟨_, rfl, ?_⟩))
          all_goals (
            go_wp2
            go_meet
            case rel => exact ⟨OO3.out, O4.out, B4.out⟩)
        case rest =>
          obtain ⟨ho1, ho2, hbz⟩ := hcut
          obtain ⟨wz, hwz⟩ : ∃ wz, wz = wc := ⟨_, rfl⟩
          rw [← hwz] at ho1 ho2 hbz ⊢
          obtain ⟨A1, c1, rfl, _⟩ := own_read ho1
          obtain ⟨A2, c2, rfl, _⟩ := own_read ho2
          have O1 := Lib.hid ho1
          have O2 := Lib.hid ho2
          have BZ := Lib.hid hbz
          have XZ := Lib.hid (BY.out.trans hbz)
          have PZ := Lib.hid (PY.out.ext hbz)
          have NK := Lib.hid (show t.kids.length ≤ 1000000 from FT.out.2.2.1)
          clear ho1 ho2 hbz hwz
          go_upto_block 0 with fail
          go_cut [7, 9, 10, 11] (fun _ _ v10 v11 wq => ∃ B' d1 C' d2 gs', v10 = .slice B' (Sp.upd t.kids p o7).length d1 ∧ v11 = .slice C' (Sp.upd t.kids p o7).length d2 ∧ PartsAt wq (.mk t.leaf (Sp.upd t.kids p o7)) A B' C' gs' ∧ Ext wx wq)
          case first =>
            rcases O7.out with ⟨h7, hv7⟩ | ⟨g7, t7, h7, hv7, hi7⟩
            · obtain rfl : ob = none := by injection hv7
              have H7 := Lib.hid h7
              clear h7 hv7
              cases bb with
              | true =>
                have hn : (t.kids.map (·.1))[q]? = some p := of_decide_eq_true HBB.out.symm
                have hq : q < t.kids.length := by have := (List.getElem?_eq_some_iff.1 hn).1; simpa using this
                have HN2 := Lib.hid hn
                have HQ2 := Lib.hid hq
                rcases own_form O1.out with ⟨_, h0, _⟩ | ⟨gN, cN, hv, _, _⟩
                · omega
                cases hv
                rcases own_form O2.out with ⟨_, h0, _⟩ | ⟨gP, cP, hv, _, _⟩
                · omega
                cases hv
                have gne := Lib.hid (own_ne O1.out O2.out (by decide) gP rfl)
                have w1 : IntKind.i64.wrap ((q : Int) + 1) = (q : Int) + 1 := by rw [IntKind.wrap_i64]; have := NK.out; omega
                have DS := Lib.hid (delStr_calls wy.heap.size gN t.kids.length c1 q _ wz O1.out hq (by have := NK.out; omega) (strsC_one _))
                clear hn hq
                go_wp2_with fail
                refine DS.out.mono ?_
                rintro e wd ⟨rfl, hd1, hbd1, on1⟩
                have D1 := Lib.hid hd1
                have BD1 := Lib.hid hbd1
                have DP := Lib.hid (delPtr_calls wy.heap.size gP t.kids.length c2 q _ wd (own_apart O2.out on1 (fun e => gne.out (show some gN = some gP from congrArg some (show gN = gP from (Option.some.inj e).symm)))) HQ2.out (by have := NK.out; omega) (ptrsC_one _))
                clear hd1 hbd1 on1
                go_wp2_with fail
                refine DP.out.mono ?_
                rintro e we ⟨rfl, hd2, hbd2, on2⟩
                have D2 := Lib.hid hd2
                have BD2 := Lib.hid hbd2
                have ON2 := Lib.hid on2
                clear hd2 hbd2 on2
                go_wp2
                go_meet
                case rel =>
                  have e1 : Sp.upd t.kids p o7 = t.kids.eraseIdx q := by rw [H7.out]; exact Sp.upd_del t.kids p q HQ.out RS.out HN2.out
                  have e2 : (t.kids.eraseIdx q).length = t.kids.length - 1 := by rw [List.length_eraseIdx, if_pos HQ2.out]
                  have BQ : Ext wx we := (XZ.out.from' (below_lower BD1.out BY.out.size)).from' (below_lower BD2.out BY.out.size)
                  obtain ⟨k1, k2⟩ := kids_del PX.out.L q HQ2.out (fun i hi => (PX.out.K i hi).ext BQ)
                  refine ⟨_, _, _, _, gs.eraseIdx q, by rw [e1, e2], by rw [e1, e2], ?_, BQ⟩
                  rw [e1]
                  refine ⟨PX.out.V.ext BQ, ?_, k1, ?_, k2⟩
                  · have := own_cells (own_apart D1.out ON2.out gne.out)
                    show Cells we _ (strsC ((t.kids.eraseIdx q).map (·.1)))
                    rw [map_erase, strsC, map_erase]
                    exact this
                  · have := own_cells D2.out
                    rw [ptrsC, map_erase]
                    exact this
              | false =>
                have hn : ¬ (t.kids.map (·.1))[q]? = some p := of_decide_eq_false HBB.out.symm
                have HN2 := Lib.hid hn
                clear hn
                go_wp2
                go_meet
                case rel =>
                  have e1 : Sp.upd t.kids p o7 = t.kids := by rw [H7.out]; exact Sp.upd_same t.kids p q HQ.out RS.out HN2.out
                  refine ⟨A1, c1, A2, c2, gs, by rw [e1], by rw [e1], ?_, XZ.out⟩
                  rw [e1]
                  exact ⟨PZ.out.V, own_cells O1.out, PZ.out.L, own_cells O2.out, PZ.out.K⟩
            · obtain rfl : ob = some ⟨g7, 0, none⟩ := by injection hv7
              have H7 := Lib.hid h7
              have HI7 := Lib.hid hi7
              clear h7 hv7 hi7
              cases bb with
              | true =>
                have hn : (t.kids.map (·.1))[q]? = some p := of_decide_eq_true HBB.out.symm
                have hq : q < t.kids.length := by have := (List.getElem?_eq_some_iff.1 hn).1; simpa using this
                have HN2 := Lib.hid hn
                have HQ2 := Lib.hid hq
                rcases own_form O2.out with ⟨_, h0, _⟩ | ⟨gP, cP, hv, hgP, _⟩
                · omega
                cases hv
                have GP := Lib.hid hgP
                have b1 : (q : Int) < (t.kids.length : Int) := by omega
                obtain ⟨k1, k2, _, _⟩ := own_isBlk O2.out q (.pointer (some ⟨gs.getD q 0, 0, none⟩)) (by have := PX.out.L; simp [ptrsC, List.getD_eq_getElem?_getD, List.getElem?_eq_getElem (show q < gs.length by omega)])
                clear hn hgP
                go_wp2
                go_meet
                case rel =>
                  have e1 : Sp.upd t.kids p o7 = t.kids.set q (p, t7) := by rw [H7.out]; exact Sp.upd_set t.kids p t7 q HQ.out RS.out HN2.out
                  have e2 : (t.kids.set q (p, t7)).length = t.kids.length := List.length_set ..
                  have BQ : Ext wx (wz.setCell ⟨gP, q, none⟩ (.pointer (some ⟨g7, 0, none⟩))) := XZ.out.setCell (Nat.le_trans BY.out.size GP.out) _
                  obtain ⟨j1, j2⟩ := kids_set PX.out.L q HQ2.out (fun i hi => (PX.out.K i hi).ext BQ) g7 p t7 (HI7.out.ext BQ)
                  refine ⟨A1, c1, _, _, gs.set q g7, by rw [e1, e2], by rw [e1, e2], ?_, BQ⟩
                  rw [e1]
                  refine ⟨PX.out.V.ext BQ, ?_, j1, ?_, j2⟩
                  · have := own_cells (own_apart O1.out (Only.set gP q (.pointer (some ⟨g7, 0, none⟩)) wz) (own_ne O1.out O2.out (by decide) gP rfl))
                    show Cells _ _ (strsC ((t.kids.set q (p, t7)).map (·.1)))
                    rw [List.map_set, show (t.kids.map (·.1)).set q p = t.kids.map (·.1) from by
                      have := (List.getElem?_eq_some_iff.1 HN2.out)
                      obtain ⟨h1, h2⟩ := this
                      rw [← h2, List.set_getElem_self]]
                    exact this
                  · have := own_cells (own_set O2.out q (by rw [ptrsC, List.length_map, PX.out.L]; exact HQ2.out) (.pointer (some ⟨g7, 0, none⟩)))
                    rw [ptrsC, List.map_set]
                    exact this
              | false =>
                have hn : ¬ (t.kids.map (·.1))[q]? = some p := of_decide_eq_false HBB.out.symm
                have HN2 := Lib.hid hn
                have tok1 : True := trivial
                have tok2 : True := trivial
                have x0 := (BY.out.trans BZ.out).cell X0.out
                clear hn
                go_wp2_with (have _t := tok1; (with_reducible refine at_bslice rfl ?_); refine bslice_new rfl 32 9 _ rfl appStr (by decide) #[.string (strOf p)] rfl rfl ?_; intro gv1 wv1 hgv1 hxv1 hbv1; have GV1 := Lib.hid hgv1; have XV1 := Lib.hid hxv1; have BV1 := Lib.hid hbv1; clear tok1 _t hgv1 hxv1 hbv1)
                refine (insStr_calls wy.heap.size gv1 t.kids.length q _ (.string (strOf p)) _ wv1 (own_ext O1.out BV1.out) QL.out (by have := NK.out; omega) (strsC_one _) rfl XV1.out (fun e => by have := (O1.out.lt _ e).2; have := GV1.out; omega) (Nat.le_trans BZ.out.size BV1.out.size)).mono ?_
                rintro e wi ⟨vi, rfl, hoi, hbi, hki⟩
                have OI := Lib.hid hoi
                have BI := Lib.hid hbi
                have O2i := Lib.hid (own_blk (own_ext O2.out BV1.out) (fun k hk => hki k ((own_ext O2.out BV1.out).lt k hk).2 (own_ne O1.out O2.out (by decide) k hk)))
                clear hoi hbi hki
                go_wp2_with (have _t := tok2; (with_reducible refine at_bslice rfl ?_); refine bslice_new rfl 120 123 _ rfl appPtr (by decide) #[.pointer (some ⟨g7, 0, none⟩)] rfl rfl ?_; intro gv2 wv2 hgv2 hxv2 hbv2; have GV2 := Lib.hid hgv2; have XV2 := Lib.hid hxv2; have BV2 := Lib.hid hbv2; clear tok2 _t hgv2 hxv2 hbv2)
                refine (insPtr_calls wy.heap.size gv2 t.kids.length q _ (.pointer (some ⟨g7, 0, none⟩)) _ wv2 (own_ext O2i.out BV2.out) QL.out (by have := NK.out; omega) (ptrsC_one _) rfl XV2.out (fun e => by have := (O2i.out.lt _ e).2; have := GV2.out; omega) (Nat.le_trans (Nat.le_trans BZ.out.size BV1.out.size) (Nat.le_trans BI.out.size BV2.out.size))).mono ?_
                rintro e wj ⟨vj, rfl, hoj, hbj, hkj⟩
                have OJ := Lib.hid hoj
                have BJ := Lib.hid hbj
                have OIj := Lib.hid (own_blk (own_ext OI.out BV2.out) (fun k hk => hkj k ((own_ext OI.out BV2.out).lt k hk).2 (own_ne O2i.out OI.out (by decide) k hk)))
                clear hoj hbj hkj
                obtain ⟨A3, c3, rfl, hc3⟩ := own_read OIj.out
                obtain ⟨A4, c4, rfl, hc4⟩ := own_read OJ.out
                have C3 := Lib.hid hc3
                have C4 := Lib.hid hc4
                clear hc3 hc4
                go_wp2
                go_meet
                case rel =>
                  have e1 : Sp.upd t.kids p o7 = t.kids.take q ++ (p, t7) :: t.kids.drop q := by rw [H7.out]; exact Sp.upd_ins t.kids p t7 q HQ.out RS.out HN2.out
                  have e2 : (t.kids.take q ++ (p, t7) :: t.kids.drop q).length = t.kids.length + 1 := by have := QL.out; simp; omega
                  have BQ : Ext wx wj := (((XZ.out.trans BV1.out).from' (below_lower BI.out BY.out.size)).trans BV2.out).from' (below_lower BJ.out BY.out.size)
                  obtain ⟨j1, j2⟩ := kids_ins PX.out.L q QL.out (fun i hi => (PX.out.K i hi).ext BQ) g7 p t7 (HI7.out.ext BQ)
                  refine ⟨A3, c3, A4, c4, gs.take q ++ g7 :: gs.drop q, by rw [e1, e2], by rw [e1, e2], ?_, BQ⟩
                  rw [e1]
                  refine ⟨PX.out.V.ext BQ, ?_, j1, ?_, j2⟩
                  · show Cells wj _ (strsC ((t.kids.take q ++ (p, t7) :: t.kids.drop q).map (·.1)))
                    rw [names_ins]
                    exact C3.out
                  · rw [ptrs_ins]
                    exact C4.out
          case rest =>
            obtain ⟨B', d1, C', d2, gs', rfl, rfl, hpq, hbq⟩ := hcut
            obtain ⟨wq, hwq⟩ : ∃ wq, wq = wc := ⟨_, rfl⟩
            rw [← hwq] at hpq hbq ⊢
            have f0 := ((PX.out.ext hbq).blk.cell 0).trans PX.out.c0
            have BQ := Lib.hid (HB.out.trans (BX.out.trans hbq))
            have KC := Lib.hid (kept_calls (.mk t.leaf (Sp.upd t.kids p o7)) A B' C' c d1 d2 gs' wq hpq (Sp.fit_kept (fun u hu => Sp.with_fit l hl (p :: ps) x HNM.out HOK.out HSZ.out u (by rw [Sp.withO, ← HT.out, ← HO7.out]; exact hu))) (KK.out.ext BQ.out))
            clear hpq hbq hwq
            go_wp2_with fail
            refine KC.out.mono ?_
            rintro e we ⟨ve, rfl, hoe, hbe⟩
            go_wp2
            go_ret
            exact ⟨ve, rfl, by rw [Sp.withO, ← HT.out, ← HO7.out]; exact hoe, BQ.out.trans hbe⟩
theorem with_calls (l : List Sp.Ver) (hl : l ≠ [] → Sp.leaf l = 0) (Al : Option Addr) (cl : Nat) : ∀ (ps : List Sp.Bs) (x : Option Sp.T) (v : Value) (Ap : Option Addr) (cp : Nat) (w : World), OptAt w v x → (∀ t, x = some t → Sp.Ok t) → (∀ t, x = some t → Sp.sizeT t ≤ 900000) →
    Nams w Ap ps → ps.length ≤ cp → (∀ n ∈ ps, Sp.name n = true) → ps.length ≤ 1000 → Vers w Al l → KeysAt w 2 →
    Calls Tryz.prog 111 #[v, .slice Ap ps.length cp, .slice Al l.length cl] w fun e w' => ∃ v', e = .returned v' ∧ OptAt w' v' (Sp.withO x ps l) ∧ Ext w w'
  | [], x, v, Ap, cp, w, hx, hok, hsz, hN, _, hnm, _, hV, K => with_nil l hl x v Ap cp Al cl w hx hok hsz hN hnm hV K
  | p :: ps, x, v, Ap, cp, w, hx, hok, hsz, hN, hcap, hnm, hps, hV, K =>
    with_cons l hl p ps Al cl (fun x v Ap cp w h1 h2 h3 h4 h5 h6 h7 => with_calls l hl Al cl ps x v Ap cp w h1 h2 h3 h4 h5 (fun n hn => hnm n (List.mem_cons_of_mem _ hn)) (by simp at hps; omega) h6 h7)
      x v Ap cp w hx hok hsz hN hcap hnm (by simp at hps; omega) hV K
end Go.Proofs.YtmlfnidckfeebaaGreatDoor
