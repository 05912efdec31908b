/- Walks: slices.Insert of one. -/
import Derived.Test.YtmlkachfahabnaaGreatDoorTA26
namespace Go.Proofs.YtmlkachfahabnaaGreatDoor
open Go.RowKit Go.Shelf
attribute [local go_sem] yUpon strOf_toList
set_option maxRecDepth 100000 in
set_option maxHeartbeats 4000000 in
theorem insStr_calls (B gv n i : Nat) (v u : Value) (xs : List Value) (w : World) (h : w.ownsRow B 9 1 v n xs) (hi : i ≤ n) (hn : n ≤ 10000000) (h1 : ∀ u ∈ xs, u.oneCell' = true) (hu : u.oneCell' = true) (hX : isBlk w gv 9 #[u]) (hg : v.ownBlock ≠ some gv) (hB : B ≤ w.heap.size) :
    Calls Tryz.prog 71 #[v, .int .i64 i, .slice (some ⟨gv, 0, none⟩) 1 1] w fun e w' => ∃ v', e = .returned v' ∧ w'.ownsRow B 9 1 v' (n + 1) (xs.take i ++ u :: xs.drop i) ∧ Below B w w' ∧ ∀ k, k < w.heap.size → v.ownBlock ≠ some k → w'.heap[k]? = w.heap[k]? := by
  have CX := Lib.hid (isBlk.one hX)
  have U1 := Lib.hid (show ∀ x ∈ [u], x.oneCell' = true by intro x hx; rw [List.mem_singleton.1 hx]; exact hu)
  have hxl : xs.length = n := by have := own_len h; omega
  have HB := Lib.hid hB
  clear hB
  rcases own_form h with ⟨rfl, rfl, rfl⟩ | ⟨g, cap, rfl, _, _⟩
  · obtain rfl : i = 0 := by omega
    have HO := Lib.hid h
    have tok : True := trivial
    clear h hX hg hu h1
    go_enter Tryz.func71, Tryz.ntmps71
    go_wp2_with (have _t := tok; at_builtin; refine app_cells appStr rfl _ _ rfl B _ 0 [] rfl HO.out (some ⟨gv, 0, none⟩) 1 1 [u] rfl rfl CX.out U1.out (by omega) HB.out ?_; intro v4 w4 hown4 hgr4 hb4; have HO4 := Lib.hid hown4; have HB4 := Lib.hid hb4; have HG4 := Lib.hid hgr4; clear hown4 hgr4 hb4 tok _t)
    go_ret
    exact ⟨_, rfl, HO4.out, HB4.out, fun k hk hne => HG4.out.block k hk (fun e => hne e.symm)⟩
  obtain ⟨hnc, hcm⟩ := own_cap h
  have HO := Lib.hid h
  have XL := Lib.hid hxl
  clear h
  by_cases hin : i = n
  · subst hin
    have tok : True := trivial
    have e1 : xs.take i ++ u :: xs.drop i = xs ++ [u] := by rw [List.take_of_length_le (by omega), List.drop_eq_nil_of_le (by omega)]
    have E1 := Lib.hid e1
    clear hX hg hu h1 e1 hxl
    go_enter Tryz.func71, Tryz.ntmps71
    go_wp2_with (have _t := tok; at_builtin; refine app_cells appStr rfl _ _ rfl B _ i xs rfl HO.out (some ⟨gv, 0, none⟩) 1 1 [u] rfl rfl CX.out U1.out (by omega) HB.out ?_; intro v4 w4 hown4 hgr4 hb4; have HO4 := Lib.hid hown4; have HB4 := Lib.hid hb4; have HG4 := Lib.hid hgr4; clear hown4 hgr4 hb4 tok _t)
    all_goals (
      go_ret
      exact ⟨_, rfl, by rw [E1.out]; exact HO4.out, HB4.out, fun k hk hne => HG4.out.block k hk (fun e => hne e.symm)⟩)
  have hgg : g ≠ gv := fun e => hg (by rw [e]; rfl)
  have hgl : g < w.heap.size ∧ B ≤ g := by
    rcases HO.out.2 with ⟨h0, _⟩ | ⟨g', _, cur, hv, hBg, hh, _⟩
    · cases h0
    · cases hv; exact ⟨isBlk.lt hh, hBg⟩
  have GL := Lib.hid hgl
  have b1 : (i : Int) ≠ (n : Int) := by omega
  have b2 : (i : Int) < (n : Int) := by omega
  have b3 : i < n := by omega
  have b4 : i ≠ n := by omega
  have b5 : (n : Int) ≤ (cap : Int) := by omega
  have b6 : (i : Int) ≤ (cap : Int) := by omega
  have b7 : i ≤ cap := by omega
  have b8 : ¬ cap = i := by omega
  have XX := Lib.hid hX
  have GG := Lib.hid hgg
  have H1 := Lib.hid h1
  have hszE : (appStr).2.2.2.choose.size = 1 := by
    obtain ⟨_, h1, _, h2, _⟩ := (appStr).2.2.2.choose_spec
    exact h2
  have IS := Lib.hid (show (Tryz.prog.info? 9).map (·.size) = some 1 by
    obtain ⟨_, _, _, i0, z, hi0, hz, hsz, _⟩ := appStr
    rw [hi0]; simp [hsz])
  clear hX hg hu h1 hxl hgl hgg hin hszE
  by_cases hc : cap = n
  · subst hc
    obtain ⟨m, hm⟩ : ∃ m, m = cap + 1 := ⟨_, rfl⟩
    obtain ⟨j, hj⟩ : ∃ j, j = i + 1 := ⟨_, rfl⟩
    obtain ⟨q, hq⟩ : ∃ q, q = m - i := ⟨_, rfl⟩
    have q0 : 0 < q := by omega
    have w1 : IntKind.i64.wrap ((cap : Int) + 1) = (m : Int) := by rw [IntKind.wrap_i64]; omega
    have w2 : IntKind.i64.wrap ((m : Int) - (i : Int)) = (q : Int) := by rw [IntKind.wrap_i64]; omega
    have w3 : IntKind.i64.wrap ((i : Int) + 1) = (j : Int) := by rw [IntKind.wrap_i64]; omega
    have c1 : (cap : Int) < (m : Int) := by omega
    have hiq : i + q = m := by omega
    have HIQ := Lib.hid hiq
    have HM := Lib.hid hm
    have HJ := Lib.hid hj
    have d1 : (i : Int) ≤ (m : Int) := by omega
    have d2 : i ≤ m := by omega
    have d3 : (j : Int) ≤ (m : Int) := by omega
    have d4 : j ≤ m := by omega
    have d5 : ¬ m = j := by omega
    have d6 : ¬ m = i := by omega
    have A1 := Lib.hid (show i + (m - i) = m by omega)
    have A2 := Lib.hid (show [u].length = Nat.min 1 (m - i) by rw [List.length_singleton]; show 1 = min 1 (m - i); omega)
    have A3 := Lib.hid (show j + (m - j) = m by omega)
    have A4 := Lib.hid (show i < m by omega)
    have A5 := Lib.hid (show j < m by omega)
    have A6 := Lib.hid (show (xs.drop i).length = Nat.min (cap - i) (m - j) by rw [List.length_drop, XL.out]; show cap - i = min (cap - i) (m - j); omega)
    have A7 := Lib.hid (show m * 16 ≤ 140737488355328 by omega)
    have A8 := Lib.hid (show m * 8 ≤ 140737488355328 by omega)
    have A9 := Lib.hid (show cap < m by omega)
    clear hq hm hj hiq
    have tok : True := trivial
    have tok2 : True := trivial
    have OL := Lib.hid (own_less HO.out i b7)
    go_enter Tryz.func71, Tryz.ntmps71
    go_wp2_with (first
      | (have _t := tok; at_builtin; refine app_grow appStr Tryz.underlying3 rfl _ _ rfl B g i cap (xs.take i) OL.out q m HIQ.out q0 (by go_simp) (by go_simp) A9.out (by first | exact A7.out | exact A8.out) ?_; intro g2 cap2 zs w4 hg2 hzl hown2 hx4; have G2 := Lib.hid hg2; have ZL := Lib.hid hzl; have HO2 := Lib.hid hown2; have X4 := Lib.hid hx4; have hnc2 := Lib.hid (own_cap hown2); have e1 : i ≤ cap2 := Nat.le_trans d2 hnc2.out.1; have e2 : (i : Int) ≤ (cap2 : Int) := Int.ofNat_le.2 e1; have e3 : ¬ cap2 = i := Nat.ne_of_gt (Nat.lt_of_lt_of_le A4.out hnc2.out.1); have e4 : j ≤ cap2 := Nat.le_trans d4 hnc2.out.1; have e5 : (j : Int) ≤ (cap2 : Int) := Int.ofNat_le.2 e4; have e6 : ¬ cap2 = j := Nat.ne_of_gt (Nat.lt_of_lt_of_le A5.out hnc2.out.1); clear hg2 hzl hown2 hx4 tok _t)
      | (have _t := tok2; (with_reducible refine at_cpy rfl ?_); go_loud (refine copy_own rfl _ _ rfl Tryz.underlying37 IS.out w.heap.size g2 m cap2 (xs.take i ++ zs) HO2.out i (m - i) (cap2 - i) (by go_simp) A1.out ⟨gv, 0, none⟩ 1 1 (by go_simp) [u] A2.out (fun j v hj => ((XX.out.below X4.out).read j v hj)) U1.out ?_); intro w5 hown5 on5 hb5; have HO5 := Lib.hid hown5; have ON5 := Lib.hid on5; have X5 := Lib.hid (X4.out.from' hb5); clear hown5 on5 hb5 tok2 _t))

    refine wp_region_det_tail (fun W => W = w5.drew) 8 (by kernel_rfl) (by kernel_rfl) rfl ?_
    simp only [List.take_succ_cons, List.take_zero, List.drop_succ_cons, List.drop_zero]
    repeat (first
      | (refine det_step (fun K hK => ?_)
         apply Exists.intro
         refine ⟨Or.inl ⟨rfl, fun W hS => ?_⟩, ?_⟩
         · skip
           go_simp
           first
           | exact rfl
           | exact ⟨rfl, hS⟩
           | (fail)
         go_simp
         refine hK _ ?_
         clear hK K)
      | (refine det_step (fun K hK => ?_); refine det_no' rfl ?_; go_simp; refine hK _ ?_; clear hK K))
    refine det_nil ?_
    rintro W rfl
    have SRC := Lib.hid (show ∀ k v, (xs.drop i)[k]? = some v → w5.drew.cell? ((⟨g, i, none⟩ : Addr).add k) = some v from fun k v hk => by
      rw [List.getElem?_drop] at hk
      rw [show (⟨g, i, none⟩ : Addr).add k = ⟨g, i + k, none⟩ from by unfold Addr.add; split <;> simp_all]
      exact X5.out.cell (own_isBlk HO.out (i + k) v hk).1)
    have H1D := Lib.hid (show ∀ v ∈ xs.drop i, v.oneCell' = true from fun v hv => H1.out v (List.mem_of_mem_drop hv))
    have W5R := Lib.hid (owned_drew HO5.out)
    clear HO5
    go_wp2_with ((with_reducible refine at_cpy rfl ?_); go_loud (refine copy_own rfl _ _ rfl Tryz.underlying37 IS.out w.heap.size g2 m cap2 _ W5R.out j (m - j) (cap2 - j) (by go_simp) A3.out ⟨g, i, none⟩ (cap - i) (cap - i) (by go_simp) (xs.drop i) A6.out SRC.out H1D.out ?_); intro w6 hown6 on6 hb6; have HO6 := Lib.hid hown6; have X6 := Lib.hid (Below.trans X5.out.drew hb6); clear hown6 on6 hb6 SRC)
    go_ret
    have fin := HO6.out
    rw [HJ.out, ins_grow xs zs u i (by have := XL.out; omega) (by have := XL.out; have := ZL.out; have := HIQ.out; have := HM.out; omega), HM.out] at fin
    rw [HM.out]
    exact ⟨_, rfl, own_lower fin HB.out, below_lower X6.out HB.out, fun k hk _ => X6.out.block k hk⟩
  · obtain ⟨y, hy⟩ := own_more HO.out (by omega)
    obtain ⟨m, hm⟩ : ∃ m, m = n + 1 := ⟨_, rfl⟩
    obtain ⟨j, hj⟩ : ∃ j, j = i + 1 := ⟨_, rfl⟩
    rw [← hm] at hy
    have HY := Lib.hid hy
    have w1 : IntKind.i64.wrap ((n : Int) + 1) = (m : Int) := by rw [IntKind.wrap_i64]; omega
    have w3 : IntKind.i64.wrap ((i : Int) + 1) = (j : Int) := by rw [IntKind.wrap_i64]; omega
    have c1 : ¬ (cap : Int) < (m : Int) := by omega
    have c2 : (m : Int) ≤ (cap : Int) := by omega
    have c3 : m ≤ cap := by omega
    have HM := Lib.hid hm
    have HJ := Lib.hid hj
    have d1 : (i : Int) ≤ (m : Int) := by omega
    have d2 : i ≤ m := by omega
    have d3 : (j : Int) ≤ (m : Int) := by omega
    have d4 : j ≤ m := by omega
    have d5 : ¬ m = j := by omega
    have d6 : ¬ m = i := by omega
    have d7 : ¬ cap = j := by omega
    have d8 : (j : Int) ≤ (cap : Int) := by omega
    have d9 : j ≤ cap := by omega
    have A1 := Lib.hid (show i + (m - i) = m by omega)
    have A2 := Lib.hid (show [u].length = Nat.min 1 (m - i) by rw [List.length_singleton]; show 1 = min 1 (m - i); omega)
    have A3 := Lib.hid (show j + (m - j) = m by omega)
    have A6 := Lib.hid (show (xs.drop i).length = Nat.min (m - i) (m - j) by rw [List.length_drop, XL.out]; show n - i = min (m - i) (m - j); omega)
    obtain ⟨cur, hcur⟩ : ∃ cur, isBlk w g 9 cur ∧ cur.size = cap := by
      rcases HO.out.2 with ⟨h0, _⟩ | ⟨g', _, cur, hv, hBg, hh, _, _, hs, _⟩
      · cases h0
      · cases hv; exact ⟨cur, hh, by omega⟩
    have hov : ∀ lb cb, (callFunc 98 #[.slice (some ⟨gv, 0, none⟩) 1 1, .slice (some ⟨g, j, none⟩) lb cb]).run Tryz.prog w = .ok (.value (.bool false)) w := fun lb cb => by
      rw [run_callFunc_extern Tryz.func98 (by kernel_rfl) (by kernel_rfl) (by kernel_rfl) (e := Extern.SlicesOverlaps.overlaps #[37, 37] #[4]) (by kernel_rfl),
        Lib.run_overlaps_apart w 37 4 9 Tryz.underlying37 1 (fun W => by
          obtain ⟨_, _, _, i0, z, hi0, hz, hsz, _⟩ := appStr
          simp [sizeOf, typeInfo, hi0, hsz]) ⟨gv, 0, none⟩ ⟨g, j, none⟩ 1 1 lb cb (fun e => GG.out e.symm) 9 9 1 cur.size XX.out.shape hcur.1.shape (by omega) (XX.out.frozen _) (XX.out.frozen _)]
      rfl
    clear hm hj hy hcur
    go_enter Tryz.func71, Tryz.ntmps71
    go_wp2_with (simp only [hov])
    refine wp_region_det_tail (fun W => W = w.drew) 8 (by kernel_rfl) (by kernel_rfl) rfl ?_
    simp only [List.take_succ_cons, List.take_zero, List.drop_succ_cons, List.drop_zero]
    repeat (first
      | (refine det_step (fun K hK => ?_)
         apply Exists.intro
         refine ⟨Or.inl ⟨rfl, fun W hS => ?_⟩, ?_⟩
         · skip
           go_simp
           first
           | exact rfl
           | exact ⟨rfl, hS⟩
           | (fail)
         go_simp
         refine hK _ ?_
         clear hK K)
      | (refine det_step (fun K hK => ?_); refine det_no' rfl ?_; go_simp; refine hK _ ?_; clear hK K))
    refine det_nil ?_
    rintro W rfl
    have SRC := Lib.hid (show ∀ k v, (xs.drop i)[k]? = some v → w.drew.cell? ((⟨g, i, none⟩ : Addr).add k) = some v from fun k v hk => by
      rw [List.getElem?_drop] at hk
      rw [show (⟨g, i, none⟩ : Addr).add k = ⟨g, i + k, none⟩ from by unfold Addr.add; split <;> simp_all]
      exact (own_isBlk HO.out (i + k) v hk).1)
    have H1D := Lib.hid (show ∀ v ∈ xs.drop i, v.oneCell' = true from fun v hv => H1.out v (List.mem_of_mem_drop hv))
    have YR := Lib.hid (owned_drew HY.out)
    have tok : True := trivial
    have tok2 : True := trivial
    clear hov
    go_wp2_with (first
      | (have _t := tok; (with_reducible refine at_cpy rfl ?_); refine copy_own rfl _ _ rfl Tryz.underlying37 IS.out B g m cap _ YR.out j (m - j) (cap - j) (by go_simp) A3.out ⟨g, i, none⟩ (m - i) (cap - i) (by go_simp) (xs.drop i) A6.out SRC.out H1D.out ?_; intro w6 hown6 on6 hb6; have HO6 := Lib.hid hown6; have X6 := Lib.hid (Below.trans (Below.refl B w).drew hb6); have N6 := Lib.hid ((Only.refl g w).drew.trans on6); clear hown6 on6 hb6 SRC tok _t)
      | (have _t := tok2; (with_reducible refine at_cpy rfl ?_); refine copy_own rfl _ _ rfl Tryz.underlying37 IS.out B g m cap _ HO6.out i (m - i) (cap - i) (by go_simp) A1.out ⟨gv, 0, none⟩ 1 1 (by go_simp) [u] A2.out (fun j v hj => (N6.out.blk XX.out (fun e => GG.out e.symm)).read j v hj) U1.out ?_; intro w7 hown7 on7 hb7; have HO7 := Lib.hid hown7; have X7 := Lib.hid (Below.trans X6.out hb7); have N7 := Lib.hid (N6.out.trans on7); clear hown7 on7 hb7 tok2 _t))
    go_ret
    have fin := HO7.out
    rw [HJ.out, ins_room xs y u i (by have := XL.out; omega), HM.out] at fin
    rw [HM.out]
    exact ⟨_, rfl, fin, X7.out, fun k hk hne => N7.out.block k hk (fun e => hne (by rw [e]; rfl))⟩
set_option maxRecDepth 100000 in
set_option maxHeartbeats 4000000 in
theorem insPtr_calls (B gv n i : Nat) (v u : Value) (xs : List Value) (w : World) (h : w.ownsRow B 57 1 v n xs) (hi : i ≤ n) (hn : n ≤ 10000000) (h1 : ∀ u ∈ xs, u.oneCell' = true) (hu : u.oneCell' = true) (hX : isBlk w gv 57 #[u]) (hg : v.ownBlock ≠ some gv) (hB : B ≤ w.heap.size) :
    Calls Tryz.prog 72 #[v, .int .i64 i, .slice (some ⟨gv, 0, none⟩) 1 1] w fun e w' => ∃ v', e = .returned v' ∧ w'.ownsRow B 57 1 v' (n + 1) (xs.take i ++ u :: xs.drop i) ∧ Below B w w' ∧ ∀ k, k < w.heap.size → v.ownBlock ≠ some k → w'.heap[k]? = w.heap[k]? := by
  have CX := Lib.hid (isBlk.one hX)
  have U1 := Lib.hid (show ∀ x ∈ [u], x.oneCell' = true by intro x hx; rw [List.mem_singleton.1 hx]; exact hu)
  have hxl : xs.length = n := by have := own_len h; omega
  have HB := Lib.hid hB
  clear hB
  rcases own_form h with ⟨rfl, rfl, rfl⟩ | ⟨g, cap, rfl, _, _⟩
  · obtain rfl : i = 0 := by omega
    have HO := Lib.hid h
    have tok : True := trivial
    clear h hX hg hu h1
    go_enter Tryz.func72, Tryz.ntmps72
    go_wp2_with (have _t := tok; at_builtin; refine app_cells appPtr rfl _ _ rfl B _ 0 [] rfl HO.out (some ⟨gv, 0, none⟩) 1 1 [u] rfl rfl CX.out U1.out (by omega) HB.out ?_; intro v4 w4 hown4 hgr4 hb4; have HO4 := Lib.hid hown4; have HB4 := Lib.hid hb4; have HG4 := Lib.hid hgr4; clear hown4 hgr4 hb4 tok _t)
    go_ret
    exact ⟨_, rfl, HO4.out, HB4.out, fun k hk hne => HG4.out.block k hk (fun e => hne e.symm)⟩
  obtain ⟨hnc, hcm⟩ := own_cap h
  have HO := Lib.hid h
  have XL := Lib.hid hxl
  clear h
  by_cases hin : i = n
  · subst hin
    have tok : True := trivial
    have e1 : xs.take i ++ u :: xs.drop i = xs ++ [u] := by rw [List.take_of_length_le (by omega), List.drop_eq_nil_of_le (by omega)]
    have E1 := Lib.hid e1
    clear hX hg hu h1 e1 hxl
    go_enter Tryz.func72, Tryz.ntmps72
    go_wp2_with (have _t := tok; at_builtin; refine app_cells appPtr rfl _ _ rfl B _ i xs rfl HO.out (some ⟨gv, 0, none⟩) 1 1 [u] rfl rfl CX.out U1.out (by omega) HB.out ?_; intro v4 w4 hown4 hgr4 hb4; have HO4 := Lib.hid hown4; have HB4 := Lib.hid hb4; have HG4 := Lib.hid hgr4; clear hown4 hgr4 hb4 tok _t)
    all_goals (
      go_ret
      exact ⟨_, rfl, by rw [E1.out]; exact HO4.out, HB4.out, fun k hk hne => HG4.out.block k hk (fun e => hne e.symm)⟩)
  have hgg : g ≠ gv := fun e => hg (by rw [e]; rfl)
  have hgl : g < w.heap.size ∧ B ≤ g := by
    rcases HO.out.2 with ⟨h0, _⟩ | ⟨g', _, cur, hv, hBg, hh, _⟩
    · cases h0
    · cases hv; exact ⟨isBlk.lt hh, hBg⟩
  have GL := Lib.hid hgl
  have b1 : (i : Int) ≠ (n : Int) := by omega
  have b2 : (i : Int) < (n : Int) := by omega
  have b3 : i < n := by omega
  have b4 : i ≠ n := by omega
  have b5 : (n : Int) ≤ (cap : Int) := by omega
  have b6 : (i : Int) ≤ (cap : Int) := by omega
  have b7 : i ≤ cap := by omega
  have b8 : ¬ cap = i := by omega
  have XX := Lib.hid hX
  have GG := Lib.hid hgg
  have H1 := Lib.hid h1
  have hszE : (appPtr).2.2.2.choose.size = 1 := by
    obtain ⟨_, h1, _, h2, _⟩ := (appPtr).2.2.2.choose_spec
    exact h2
  have IS := Lib.hid (show (Tryz.prog.info? 57).map (·.size) = some 1 by
    obtain ⟨_, _, _, i0, z, hi0, hz, hsz, _⟩ := appPtr
    rw [hi0]; simp [hsz])
  clear hX hg hu h1 hxl hgl hgg hin hszE
  by_cases hc : cap = n
  · subst hc
    obtain ⟨m, hm⟩ : ∃ m, m = cap + 1 := ⟨_, rfl⟩
    obtain ⟨j, hj⟩ : ∃ j, j = i + 1 := ⟨_, rfl⟩
    obtain ⟨q, hq⟩ : ∃ q, q = m - i := ⟨_, rfl⟩
    have q0 : 0 < q := by omega
    have w1 : IntKind.i64.wrap ((cap : Int) + 1) = (m : Int) := by rw [IntKind.wrap_i64]; omega
    have w2 : IntKind.i64.wrap ((m : Int) - (i : Int)) = (q : Int) := by rw [IntKind.wrap_i64]; omega
    have w3 : IntKind.i64.wrap ((i : Int) + 1) = (j : Int) := by rw [IntKind.wrap_i64]; omega
    have c1 : (cap : Int) < (m : Int) := by omega
    have hiq : i + q = m := by omega
    have HIQ := Lib.hid hiq
    have HM := Lib.hid hm
    have HJ := Lib.hid hj
    have d1 : (i : Int) ≤ (m : Int) := by omega
    have d2 : i ≤ m := by omega
    have d3 : (j : Int) ≤ (m : Int) := by omega
    have d4 : j ≤ m := by omega
    have d5 : ¬ m = j := by omega
    have d6 : ¬ m = i := by omega
    have A1 := Lib.hid (show i + (m - i) = m by omega)
    have A2 := Lib.hid (show [u].length = Nat.min 1 (m - i) by rw [List.length_singleton]; show 1 = min 1 (m - i); omega)
    have A3 := Lib.hid (show j + (m - j) = m by omega)
    have A4 := Lib.hid (show i < m by omega)
    have A5 := Lib.hid (show j < m by omega)
    have A6 := Lib.hid (show (xs.drop i).length = Nat.min (cap - i) (m - j) by rw [List.length_drop, XL.out]; show cap - i = min (cap - i) (m - j); omega)
    have A7 := Lib.hid (show m * 16 ≤ 140737488355328 by omega)
    have A8 := Lib.hid (show m * 8 ≤ 140737488355328 by omega)
    have A9 := Lib.hid (show cap < m by omega)
    clear hq hm hj hiq
    have tok : True := trivial
    have tok2 : True := trivial
    have OL := Lib.hid (own_less HO.out i b7)
    go_enter Tryz.func72, Tryz.ntmps72
    go_wp2_with (first
      | (have _t := tok; at_builtin; refine app_grow appPtr Tryz.underlying3 rfl _ _ rfl B g i cap (xs.take i) OL.out q m HIQ.out q0 (by go_simp) (by go_simp) A9.out (by first | exact A7.out | exact A8.out) ?_; intro g2 cap2 zs w4 hg2 hzl hown2 hx4; have G2 := Lib.hid hg2; have ZL := Lib.hid hzl; have HO2 := Lib.hid hown2; have X4 := Lib.hid hx4; have hnc2 := Lib.hid (own_cap hown2); have e1 : i ≤ cap2 := Nat.le_trans d2 hnc2.out.1; have e2 : (i : Int) ≤ (cap2 : Int) := Int.ofNat_le.2 e1; have e3 : ¬ cap2 = i := Nat.ne_of_gt (Nat.lt_of_lt_of_le A4.out hnc2.out.1); have e4 : j ≤ cap2 := Nat.le_trans d4 hnc2.out.1; have e5 : (j : Int) ≤ (cap2 : Int) := Int.ofNat_le.2 e4; have e6 : ¬ cap2 = j := Nat.ne_of_gt (Nat.lt_of_lt_of_le A5.out hnc2.out.1); clear hg2 hzl hown2 hx4 tok _t)
      | (have _t := tok2; (with_reducible refine at_cpy rfl ?_); go_loud (refine copy_own rfl _ _ rfl Tryz.underlying64 IS.out w.heap.size g2 m cap2 (xs.take i ++ zs) HO2.out i (m - i) (cap2 - i) (by go_simp) A1.out ⟨gv, 0, none⟩ 1 1 (by go_simp) [u] A2.out (fun j v hj => ((XX.out.below X4.out).read j v hj)) U1.out ?_); intro w5 hown5 on5 hb5; have HO5 := Lib.hid hown5; have ON5 := Lib.hid on5; have X5 := Lib.hid (X4.out.from' hb5); clear hown5 on5 hb5 tok2 _t))

    refine wp_region_det_tail (fun W => W = w5.drew) 8 (by kernel_rfl) (by kernel_rfl) rfl ?_
    simp only [List.take_succ_cons, List.take_zero, List.drop_succ_cons, List.drop_zero]
    repeat (first
      | (refine det_step (fun K hK => ?_)
         apply Exists.intro
         refine ⟨Or.inl ⟨rfl, fun W hS => ?_⟩, ?_⟩
         · skip
           go_simp
           first
           | exact rfl
           | exact ⟨rfl, hS⟩
           | (fail)
         go_simp
         refine hK _ ?_
         clear hK K)
      | (refine det_step (fun K hK => ?_); refine det_no' rfl ?_; go_simp; refine hK _ ?_; clear hK K))
    refine det_nil ?_
    rintro W rfl
    have SRC := Lib.hid (show ∀ k v, (xs.drop i)[k]? = some v → w5.drew.cell? ((⟨g, i, none⟩ : Addr).add k) = some v from fun k v hk => by
      rw [List.getElem?_drop] at hk
      rw [show (⟨g, i, none⟩ : Addr).add k = ⟨g, i + k, none⟩ from by unfold Addr.add; split <;> simp_all]
      exact X5.out.cell (own_isBlk HO.out (i + k) v hk).1)
    have H1D := Lib.hid (show ∀ v ∈ xs.drop i, v.oneCell' = true from fun v hv => H1.out v (List.mem_of_mem_drop hv))
    have W5R := Lib.hid (owned_drew HO5.out)
    clear HO5
    go_wp2_with ((with_reducible refine at_cpy rfl ?_); go_loud (refine copy_own rfl _ _ rfl Tryz.underlying64 IS.out w.heap.size g2 m cap2 _ W5R.out j (m - j) (cap2 - j) (by go_simp) A3.out ⟨g, i, none⟩ (cap - i) (cap - i) (by go_simp) (xs.drop i) A6.out SRC.out H1D.out ?_); intro w6 hown6 on6 hb6; have HO6 := Lib.hid hown6; have X6 := Lib.hid (Below.trans X5.out.drew hb6); clear hown6 on6 hb6 SRC)
    go_ret
    have fin := HO6.out
    rw [HJ.out, ins_grow xs zs u i (by have := XL.out; omega) (by have := XL.out; have := ZL.out; have := HIQ.out; have := HM.out; omega), HM.out] at fin
    rw [HM.out]
    exact ⟨_, rfl, own_lower fin HB.out, below_lower X6.out HB.out, fun k hk _ => X6.out.block k hk⟩
  · obtain ⟨y, hy⟩ := own_more HO.out (by omega)
    obtain ⟨m, hm⟩ : ∃ m, m = n + 1 := ⟨_, rfl⟩
    obtain ⟨j, hj⟩ : ∃ j, j = i + 1 := ⟨_, rfl⟩
    rw [← hm] at hy
    have HY := Lib.hid hy
    have w1 : IntKind.i64.wrap ((n : Int) + 1) = (m : Int) := by rw [IntKind.wrap_i64]; omega
    have w3 : IntKind.i64.wrap ((i : Int) + 1) = (j : Int) := by rw [IntKind.wrap_i64]; omega
    have c1 : ¬ (cap : Int) < (m : Int) := by omega
    have c2 : (m : Int) ≤ (cap : Int) := by omega
    have c3 : m ≤ cap := by omega
    have HM := Lib.hid hm
    have HJ := Lib.hid hj
    have d1 : (i : Int) ≤ (m : Int) := by omega
    have d2 : i ≤ m := by omega
    have d3 : (j : Int) ≤ (m : Int) := by omega
    have d4 : j ≤ m := by omega
    have d5 : ¬ m = j := by omega
    have d6 : ¬ m = i := by omega
    have d7 : ¬ cap = j := by omega
    have d8 : (j : Int) ≤ (cap : Int) := by omega
    have d9 : j ≤ cap := by omega
    have A1 := Lib.hid (show i + (m - i) = m by omega)
    have A2 := Lib.hid (show [u].length = Nat.min 1 (m - i) by rw [List.length_singleton]; show 1 = min 1 (m - i); omega)
    have A3 := Lib.hid (show j + (m - j) = m by omega)
    have A6 := Lib.hid (show (xs.drop i).length = Nat.min (m - i) (m - j) by rw [List.length_drop, XL.out]; show n - i = min (m - i) (m - j); omega)
    obtain ⟨cur, hcur⟩ : ∃ cur, isBlk w g 57 cur ∧ cur.size = cap := by
      rcases HO.out.2 with ⟨h0, _⟩ | ⟨g', _, cur, hv, hBg, hh, _, _, hs, _⟩
      · cases h0
      · cases hv; exact ⟨cur, hh, by omega⟩
    have hov : ∀ lb cb, (callFunc 100 #[.slice (some ⟨gv, 0, none⟩) 1 1, .slice (some ⟨g, j, none⟩) lb cb]).run Tryz.prog w = .ok (.value (.bool false)) w := fun lb cb => by
      rw [run_callFunc_extern Tryz.func100 (by kernel_rfl) (by kernel_rfl) (by kernel_rfl) (e := Extern.SlicesOverlaps.overlaps #[64, 64] #[4]) (by kernel_rfl),
        Lib.run_overlaps_apart w 64 4 57 Tryz.underlying64 1 (fun W => by
          obtain ⟨_, _, _, i0, z, hi0, hz, hsz, _⟩ := appPtr
          simp [sizeOf, typeInfo, hi0, hsz]) ⟨gv, 0, none⟩ ⟨g, j, none⟩ 1 1 lb cb (fun e => GG.out e.symm) 57 57 1 cur.size XX.out.shape hcur.1.shape (by omega) (XX.out.frozen _) (XX.out.frozen _)]
      rfl
    clear hm hj hy hcur
    go_enter Tryz.func72, Tryz.ntmps72
    go_wp2_with (simp only [hov])
    refine wp_region_det_tail (fun W => W = w.drew) 8 (by kernel_rfl) (by kernel_rfl) rfl ?_
    simp only [List.take_succ_cons, List.take_zero, List.drop_succ_cons, List.drop_zero]
    repeat (first
      | (refine det_step (fun K hK => ?_)
         apply Exists.intro
         refine ⟨Or.inl ⟨rfl, fun W hS => ?_⟩, ?_⟩
         · skip
           go_simp
           first
           | exact rfl
           | exact ⟨rfl, hS⟩
           | (fail)
         go_simp
         refine hK _ ?_
         clear hK K)
      | (refine det_step (fun K hK => ?_); refine det_no' rfl ?_; go_simp; refine hK _ ?_; clear hK K))
    refine det_nil ?_
    rintro W rfl
    have SRC := Lib.hid (show ∀ k v, (xs.drop i)[k]? = some v → w.drew.cell? ((⟨g, i, none⟩ : Addr).add k) = some v from fun k v hk => by
      rw [List.getElem?_drop] at hk
      rw [show (⟨g, i, none⟩ : Addr).add k = ⟨g, i + k, none⟩ from by unfold Addr.add; split <;> simp_all]
      exact (own_isBlk HO.out (i + k) v hk).1)
    have H1D := Lib.hid (show ∀ v ∈ xs.drop i, v.oneCell' = true from fun v hv => H1.out v (List.mem_of_mem_drop hv))
    have YR := Lib.hid (owned_drew HY.out)
    have tok : True := trivial
    have tok2 : True := trivial
    clear hov
    go_wp2_with (first
      | (have _t := tok; (with_reducible refine at_cpy rfl ?_); refine copy_own rfl _ _ rfl Tryz.underlying64 IS.out B g m cap _ YR.out j (m - j) (cap - j) (by go_simp) A3.out ⟨g, i, none⟩ (m - i) (cap - i) (by go_simp) (xs.drop i) A6.out SRC.out H1D.out ?_; intro w6 hown6 on6 hb6; have HO6 := Lib.hid hown6; have X6 := Lib.hid (Below.trans (Below.refl B w).drew hb6); have N6 := Lib.hid ((Only.refl g w).drew.trans on6); clear hown6 on6 hb6 SRC tok _t)
      | (have _t := tok2; (with_reducible refine at_cpy rfl ?_); refine copy_own rfl _ _ rfl Tryz.underlying64 IS.out B g m cap _ HO6.out i (m - i) (cap - i) (by go_simp) A1.out ⟨gv, 0, none⟩ 1 1 (by go_simp) [u] A2.out (fun j v hj => (N6.out.blk XX.out (fun e => GG.out e.symm)).read j v hj) U1.out ?_; intro w7 hown7 on7 hb7; have HO7 := Lib.hid hown7; have X7 := Lib.hid (Below.trans X6.out hb7); have N7 := Lib.hid (N6.out.trans on7); clear hown7 on7 hb7 tok2 _t))
    go_ret
    have fin := HO7.out
    rw [HJ.out, ins_room xs y u i (by have := XL.out; omega), HM.out] at fin
    rw [HM.out]
    exact ⟨_, rfl, fin, X7.out, fun k hk hne => N7.out.block k hk (fun e => hne (by rw [e]; rfl))⟩
end Go.Proofs.YtmlkachfahabnaaGreatDoor
