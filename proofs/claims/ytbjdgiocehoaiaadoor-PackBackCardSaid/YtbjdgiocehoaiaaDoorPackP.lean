/- Walks: what stands behind an archive's mark; its files, as they are told. -/
import Derived.Test.YtbjdgiocehoaiaaDoorPackJ
namespace Go.Proofs.YtbjdgiocehoaiaaDoor
open Go.RowKit
set_option maxRecDepth 100000 in
set_option maxHeartbeats 2000000 in
theorem opened_calls (s : List UInt8) (w : World) (hs : s.length < 4294967200) :
    Calls Tryd.prog 49 #[.string (strOf s)] w fun e w' => e = .returned (.tuple #[.string (strOf (Sp.popen s).1), .int .i64 (Sp.popen s).2]) ∧ Below w.heap.size w w' := by
  have O := Lib.hid (open_calls (strOf s) w (by rw [strOf_size]; exact hs))
  rw [strOf_data] at O
  cases ho : Sp.opened s with
  | none =>
    have F := Lib.hid (show Sp.popen s = ([], 9) by unfold Sp.popen; rw [ho])
    rw [show openV s = .tuple #[.string ⟨#[]⟩, .bool false] by unfold openV; rw [ho]; rfl] at O
    clear ho
    go_enter Tryd.func49, Tryd.ntmps49
    go_wp2_with (go_at_call 71; refine O.out.mono ?_; rintro e w1 ⟨rfl, hb1⟩)
    go_ret2
    exact ⟨by rw [F.out]; rfl, hb1⟩
  | some t =>
    have F := Lib.hid (show Sp.popen s = if t.length < 3 then ([], 5) else if t.take 3 ≠ [104, 97, 1] then ([], 7) else (t.drop 3, 0) by unfold Sp.popen; rw [ho])
    rw [show openV s = .tuple #[.string (strOf t), .bool true] by unfold openV; rw [ho]] at O
    have s1 : (strOf t).size = t.length := strOf_size _
    clear ho
    by_cases h3 : t.length < 3
    · rw [if_pos h3] at F
      have b1 : decide ((t.length : Int) < 3) = true := by rw [decide_eq_true_iff]; omega
      go_enter Tryd.func49, Tryd.ntmps49
      go_wp2_with (go_at_call 71; refine O.out.mono ?_; rintro e w1 ⟨rfl, hb1⟩)
      go_ret2
      exact ⟨by rw [F.out]; rfl, hb1⟩
    · rw [if_neg h3] at F
      have b1 : decide ((t.length : Int) < 3) = false := by rw [decide_eq_false_iff_not]; omega
      have s2 := ext_take t 3
      have s3 := ext_drop t 3
      have s4 : (strOf (t.take 3)).toList = t.take 3 := strOf_toList _
      by_cases hm : t.take 3 = [104, 97, 1]
      · rw [if_neg (by simpa using hm)] at F
        rw [hm] at s2 s4
        go_enter Tryd.func49, Tryd.ntmps49
        go_wp2_with (go_at_call 71; refine O.out.mono ?_; rintro e w1 ⟨rfl, hb1⟩)
        go_ret2
        exact ⟨by rw [F.out]; rfl, hb1⟩
      · rw [if_pos hm] at F
        have b2 : (t.take 3 == [104, 97, 1]) = false := by simpa using hm
        have b3 : (t.take 3 != [104, 97, 1]) = true := by simpa using hm
        go_enter Tryd.func49, Tryd.ntmps49
        go_wp2_with (go_at_call 71; refine O.out.mono ?_; rintro e w1 ⟨rfl, hb1⟩)
        go_ret2
        exact ⟨by rw [F.out]; rfl, hb1⟩
/-- A told file's three cells. -/
def partV (p : Sp.Part) : List Value := [.int .i64 p.1, .string (strOf p.2.1), .string (strOf p.2.2)]
theorem flat3_get (l : List Sp.Part) (k i : Nat) (h : k < l.length) (hi : i < 3) : (l.flatMap partV)[k * 3 + i]? = (partV l[k])[i]? := by
  induction l generalizing k with
  | nil => simp at h
  | cons f r ih =>
    cases k with
    | zero => rw [List.flatMap_cons, List.getElem?_append_left (by simp [partV]; omega)]; simp
    | succ k =>
      rw [List.flatMap_cons, List.getElem?_append_right (by simp [partV]; omega)]
      have := ih k (by simpa using h)
      rw [show (k + 1) * 3 + i - (partV f).length = k * 3 + i by simp [partV]; omega, this]
      simp
/-- Files as they are told, in a row. -/
def Pt (w : World) (g : Nat) (l : List Sp.Part) : Prop := ∀ k, (h : k < l.length) → w.cell? ⟨g, k * 3, none⟩ = some (.int .i64 l[k].1) ∧ w.cell? ⟨g, k * 3 + 1, none⟩ = some (.string (strOf l[k].2.1)) ∧ w.cell? ⟨g, k * 3 + 2, none⟩ = some (.string (strOf l[k].2.2))
theorem Pt.below {w w' : World} {g : Nat} {l : List Sp.Part} (h : Pt w g l) (hb : Below w.heap.size w w') : Pt w' g l := fun k hk => ⟨cellKept (h k hk).1 hb, cellKept (h k hk).2.1 hb, cellKept (h k hk).2.2 hb⟩
def PtA (w : World) (A : Option Addr) (l : List Sp.Part) : Prop := l ≠ [] → ∃ g, A = some ⟨g, 0, none⟩ ∧ Pt w g l
theorem owned_parts {w : World} {B g n cap : Nat} {t : TypeId} {l : List Sp.Part} (h : w.ownsRow B t 3 (.slice (some ⟨g, 0, none⟩) n cap) n (l.flatMap partV)) (hn : n = l.length) : Pt w g l := fun k hk => by
  have e0 := flat3_get l k 0 hk (by decide)
  rw [Nat.add_zero] at e0
  refine ⟨?_, ?_, ?_⟩
  · rw [h.cellAt (k * 3) (by omega), e0]; rfl
  · rw [h.cellAt (k * 3 + 1) (by omega), flat3_get l k 1 hk (by decide)]; rfl
  · rw [h.cellAt (k * 3 + 2) (by omega), flat3_get l k 2 hk (by decide)]; rfl
theorem appP : AppStat Tryd.prog 67 71 3 40 := by
  refine ⟨Tryd.underlying67, by decide, by decide, ?_⟩
  obtain ⟨i0, hi, hz0, hz1, hz2⟩ := info_parts (show (Tryd.prog.info? 71).map (fun i => (i.zero, i.size, i.bytes)) = some (some (.agg #[.int .i64 0, .string ⟨#[]⟩, .string ⟨#[]⟩]), 3, 40) by kernel_rfl)
  exact ⟨i0, _, hi, hz0, hz1, hz2, rfl⟩
/-- A row is not a block of another type. -/
theorem blk_not_row {w : World} {g t e : Nat} {cs : Array Value} (h : isBlk w g t cs) (hte : t ≠ e) {B size n : Nat} {v : Value} {xs : List Value} (hr : w.ownsRow B e size v n xs) : v.ownBlock ≠ some g := by
  rcases hr.2 with ⟨rfl, _⟩ | ⟨g', cap, cur, rfl, _, hgb, _⟩
  · simp [Value.ownBlock]
  · intro e'
    obtain rfl : g' = g := by simpa [Value.ownBlock] using e'
    have := (show w.heap[g']? = _ from h).symm.trans hgb
    simp at this
    exact hte this.2
theorem size_set (w : World) (a : Addr) (v : Value) : (w.setCell a v).heap.size = w.heap.size := by simp
theorem own_new {w : World} {B size n e : Nat} {v : Value} {xs : List Value} (hr : w.ownsRow B e size v n xs) : v.ownBlock ≠ some w.heap.size := fun e => absurd (hr.lt _ e).2 (Nat.lt_irrefl _)
theorem own_only {w w' : World} {g B size n e : Nat} {v : Value} {xs : List Value} (h : Only g w w') (hne : v.ownBlock ≠ some g) (hr : w.ownsRow B e size v n xs) : w'.ownsRow B e size v n xs := by
  refine ⟨hr.1, ?_⟩
  rcases hr.2 with hn | ⟨g', cap', cur, hv, hbg, hgg, r⟩
  · exact .inl hn
  · refine .inr ⟨g', cap', cur, hv, hbg, ?_, r⟩
    rw [h.block g' (Array.getElem?_eq_some_iff.1 hgg).1 (fun e => hne (by rw [hv, e]; simp [Value.ownBlock]))]; exact hgg
theorem own_below {w w' : World} {B size n e : Nat} {v : Value} {xs : List Value} (hr : w.ownsRow B e size v n xs) (h : Below w.heap.size w w') : w'.ownsRow B e size v n xs := by
  refine ⟨hr.1, ?_⟩
  rcases hr.2 with hn | ⟨g', cap', cur, hv, hbg, hgg, r⟩
  · exact .inl hn
  · refine .inr ⟨g', cap', cur, hv, hbg, ?_, r⟩
    rw [h.block g' (Array.getElem?_eq_some_iff.1 hgg).1]; exact hgg
set_option maxRecDepth 100000 in
set_option maxHeartbeats 4000000 in
theorem pparts_calls (s : List UInt8) (w : World) (hs : s.length < 4294967200) :
    Calls Tryd.prog 50 #[.string (strOf s)] w fun e w' => ∃ A cap, e = .returned (.tuple #[.slice A (Sp.pall2 s).1.length cap, .int .i64 (Sp.rdone (Sp.pall2 s).2)]) ∧ PtA w' A (Sp.pall2 s).1 ∧ Below w.heap.size w w' := by
  have NW := Lib.hid (rnew_calls (strOf s) w)
  rw [strOf_data] at NW
  have NB := Lib.hid fun g W h => rnumber_calls g 128 (s, 0) W h hs
  have P0 := Lib.hid (show Sp.pall2 s = ([] ++ (Sp.pparts ((Sp.rnum 128 (s, 0)).1 - 0) (Sp.rnum 128 (s, 0)).2).1, (Sp.pparts ((Sp.rnum 128 (s, 0)).1 - 0) (Sp.rnum 128 (s, 0)).2).2) from rfl)
  have L0 := Lib.hid (Sp.rnum_len 128 (s, 0))
  have hm := Sp.rnum_most (most := 128) (by decide) (s, 0)
  obtain ⟨m, hmm⟩ : ∃ m, m = (Sp.rnum 128 (s, 0)).1 := ⟨_, rfl⟩
  rw [← hmm] at NB P0 hm
  clear hmm
  go_enter Tryd.func50, Tryd.ntmps50
  go_wp2_with (first
    | (go_at_call 72; refine NW.out.mono ?_; rintro e w1 ⟨gR, hgR, rfl, hr1, hb1⟩; have X1 := Lib.hid hr1; have Y1 := Lib.hid hb1; clear hr1 hb1)
    | (go_at_call 73; refine (NB.out gR _ X1.out).mono ?_; rintro e w2 ⟨rfl, hr2, ho2⟩; have X2 := Lib.hid hr2; have Y2 := Lib.hid (Y1.out.trans (ho2.below hgR Y1.out.size)); clear hr2 ho2 X1 Y1))
  clear NW NB
  go_loopw [5, 11] (fun v5 v11 wr => ∃ (k : Nat) (x : Sp.R) (acc : List Sp.Part), k ≤ m ∧ v11 = .int .i64 k ∧ acc.length = k ∧ wr.ownsRow w.heap.size 71 3 v5 k (acc.flatMap partV) ∧ isRd wr gR x ∧ x.1.length ≤ s.length ∧ Below w.heap.size w wr ∧ Sp.pall2 s = (acc ++ (Sp.pparts (m - k) x).1, (Sp.pparts (m - k) x).2)) (fun _ v11 _ => m - (intOf v11).toNat)
  case atStart => exact ⟨0, _, [], Nat.zero_le _, rfl, rfl, World.ownsRow_nil _ _ _ _, X2.out, L0.out, Y2.out, P0.out⟩
  case round =>
    obtain ⟨k, x, acc, hk, rfl, hacc, hown, hx, hxl, hb, hp⟩ := hrel
    obtain ⟨A5, n5, cap5, rfl⟩ := own_slice hown
    by_cases hlt : k < m
    · have b1 : decide ((k : Int) < (m : Int)) = true := by rw [decide_eq_true_iff]; omega
      rw [show m - k = (m - (k + 1)) + 1 by omega, Sp.pparts] at hp
      obtain ⟨q1, hq1⟩ : ∃ q1, q1 = Sp.rnum 51 x := ⟨_, rfl⟩
      obtain ⟨q2, hq2⟩ : ∃ q2, q2 = Sp.rtext 51 q1.2 := ⟨_, rfl⟩
      obtain ⟨q3, hq3⟩ : ∃ q3, q3 = Sp.rtext 48 q2.2 := ⟨_, rfl⟩
      have hpo : Sp.pone x = ((q1.1, q2.1, q3.1), q3.2) := by rw [hq3, hq2, hq1]; rfl
      rw [hpo] at hp
      simp only [] at hp
      have l1 : q1.2.1.length ≤ x.1.length := by rw [hq1]; exact Sp.rnum_len _ _
      have l2 : q2.2.1.length ≤ q1.2.1.length := by rw [hq2]; exact Sp.rtext_len _ _
      have l3 : q3.2.1.length ≤ q2.2.1.length := by rw [hq3]; exact Sp.rtext_len _ _
      have N1 := Lib.hid (rnumber_calls gR 51 x wr hx (by omega))
      have TA := Lib.hid fun W h => rtext_calls gR 51 q1.2 W h (by omega)
      have TB := Lib.hid fun W h => rtext_calls gR 48 q2.2 W h (by omega)
      rw [← hq1] at N1
      rw [← hq2] at TA
      rw [← hq3] at TB
      have O0 := Lib.hid hown
      have Z0 := Lib.hid hb
      have NG := Lib.hid (blk_not_row hx (by decide) hown)
      have HP := Lib.hid hp
      have L3 := Lib.hid (show q3.2.1.length ≤ s.length by omega)
      clear hown hx hp hpo hq1 hq2 hq3 l1 l2 l3 hb hxl
      have EC := Lib.hid fun W h => rerr_calls gR q3.2 W h
      by_cases h9 : q3.2.2 = 0
      · have HP2 := Lib.hid (show Sp.pall2 s = ((acc ++ [(q1.1, q2.1, q3.1)]) ++ (Sp.pparts (m - (k + 1)) q3.2).1, (Sp.pparts (m - (k + 1)) q3.2).2) by rw [HP.out, if_neg (by simpa using h9)]; simp)
        rw [h9] at EC
        clear HP h9
        go_wp2_with (first
          | (go_at_call 73; refine N1.out.mono ?_; rintro e w3 ⟨rfl, hr3, ho3⟩; have X3 := Lib.hid hr3; have O3 := Lib.hid (own_only ho3 NG.out O0.out); have Z3 := Lib.hid (Z0.out.trans (ho3.below hgR Z0.out.size)); clear hr3 ho3 O0 Z0)
          | (go_at_call 74; refine (TA.out (w3.alloc (.cells #[.int .i64 q1.1, .string ⟨#[]⟩, .string ⟨#[]⟩] 71)) (X3.out.alloc _)).mono ?_; rintro e w4 ⟨rfl, hr4, ho4⟩; have hp4 : isBlk w4 w3.heap.size 71 #[.int .i64 q1.1, .string ⟨#[]⟩, .string ⟨#[]⟩] := ho4.blk (heap_alloc_new w3 _) (Nat.ne_of_gt X3.out.lt); have O4 := Lib.hid (own_only ho4 NG.out (O3.out.alloc (.cells #[.int .i64 q1.1, .string ⟨#[]⟩, .string ⟨#[]⟩] 71))); have NE4 := Lib.hid (own_new O3.out); have NR := Lib.hid (Nat.ne_of_lt X3.out.lt); have ZP := Lib.hid Z3.out.size; have Z4 := Lib.hid ((Z3.out.alloc Z3.out.size (.cells #[.int .i64 q1.1, .string ⟨#[]⟩, .string ⟨#[]⟩] 71)).trans (ho4.below hgR (Nat.le_trans Z3.out.size (by simp)))); have X4 := Lib.hid hr4; have H4 := Lib.hid hp4; have c41 := (hp4.cell 1).trans rfl; have f41 := hp4.frozen 1; clear hr4 ho4 hp4 TA X3 O3 Z3)
          | (go_at_call 74; refine (TB.out (w4.setCell ⟨w3.heap.size, 1, none⟩ (.string (strOf q2.1))) (isBlk.far (j := 1) X4.out NR.out (.string (strOf q2.1)))).mono ?_; rintro e w5 ⟨rfl, hr5, ho5⟩; have hp5 : isBlk w5 w3.heap.size 71 #[.int .i64 q1.1, .string (strOf q2.1), .string ⟨#[]⟩] := ho5.blk (H4.out.put 1 _ rfl) (Ne.symm NR.out); have O5 := Lib.hid (own_only ho5 NG.out (own_far (j := 1) O4.out NE4.out (.string (strOf q2.1)))); have Z5 := Lib.hid ((Z4.out.setCell (p := ⟨w3.heap.size, 1, none⟩) ZP.out (.string (strOf q2.1))).trans (ho5.below hgR (Nat.le_trans Z4.out.size (by simp)))); have X5 := Lib.hid hr5; have H5 := Lib.hid hp5; have c52 := (hp5.cell 2).trans rfl; have f52 := hp5.frozen 2; have hp6 : isBlk (w5.setCell ⟨w3.heap.size, 2, none⟩ (.string (strOf q3.1))) w3.heap.size 71 #[.int .i64 q1.1, .string (strOf q2.1), .string (strOf q3.1)] := hp5.put 2 _ rfl; have d0 := (hp6.cell 0).trans rfl; have d1 := (hp6.cell 1).trans rfl; have d2 := (hp6.cell 2).trans rfl; clear hr5 ho5 hp5 hp6 TB O4 Z4 X4 H4 c41 f41)
          | (at_builtin; refine app_new appP rfl _ _ rfl w.heap.size _ k _ rfl (own_far (j := 2) O5.out NE4.out (.string (strOf q3.1))) #[.int .i64 q1.1, .string (strOf q2.1), .string (strOf q3.1)] 71 1 (by rw [size_set]; rfl) rfl (by intro u hu; simp at hu; rcases hu with rfl | rfl | rfl <;> rfl) (by decide) (by omega) (Nat.le_trans Z5.out.size (by simp)) ?_; intro g7 cap7 w7 hown7 hgr7 hbl7 hbg7; have X7 : Hid (isRd w7 gR q3.2) := Lib.hid ((hgr7.block gR (by have := X5.out.lt; simpa using this) (Ne.symm NG.out)).trans (isBlk.far (j := 2) X5.out NR.out (.string (strOf q3.1)))); have Z7 := Lib.hid ((Z5.out.setCell (p := ⟨w3.heap.size, 2, none⟩) ZP.out (.string (strOf q3.1))).trans hbl7); have O7 := Lib.hid hown7; clear hown7 hgr7 hbl7 d0 d1 d2 X5 O5 Z5 H5 c52 f52)
          | (go_at_call 75; refine (EC.out w7 X7.out).mono ?_; rintro e w8 ⟨rfl, rfl⟩)
          | (go_at_call 76; refine (rdone_calls gR q3.2 w7 X7.out).mono ?_; rintro e w8 ⟨rfl, rfl⟩))
        go_roundw
        case rel =>
          refine ⟨k + 1, q3.2, acc ++ [(q1.1, q2.1, q3.1)], by omega, by go_num, by simp [hacc], ?_, X7.out, L3.out, Z7.out, HP2.out⟩
          rw [List.flatMap_append]
          exact O7.out
        case measure => simp [intOf]; omega
      · have HP2 := Lib.hid (show Sp.pall2 s = (acc ++ [(q1.1, q2.1, q3.1)], q3.2) by rw [HP.out, if_pos h9])
        have b2 : (q3.2.2 == 0) = false := by simpa using h9
        have b3 : (q3.2.2 != 0) = true := by simpa using h9
        clear HP h9
        go_wp2_with (first
          | (go_at_call 73; refine N1.out.mono ?_; rintro e w3 ⟨rfl, hr3, ho3⟩; have X3 := Lib.hid hr3; have O3 := Lib.hid (own_only ho3 NG.out O0.out); have Z3 := Lib.hid (Z0.out.trans (ho3.below hgR Z0.out.size)); clear hr3 ho3 O0 Z0)
          | (go_at_call 74; refine (TA.out (w3.alloc (.cells #[.int .i64 q1.1, .string ⟨#[]⟩, .string ⟨#[]⟩] 71)) (X3.out.alloc _)).mono ?_; rintro e w4 ⟨rfl, hr4, ho4⟩; have hp4 : isBlk w4 w3.heap.size 71 #[.int .i64 q1.1, .string ⟨#[]⟩, .string ⟨#[]⟩] := ho4.blk (heap_alloc_new w3 _) (Nat.ne_of_gt X3.out.lt); have O4 := Lib.hid (own_only ho4 NG.out (O3.out.alloc (.cells #[.int .i64 q1.1, .string ⟨#[]⟩, .string ⟨#[]⟩] 71))); have NE4 := Lib.hid (own_new O3.out); have NR := Lib.hid (Nat.ne_of_lt X3.out.lt); have ZP := Lib.hid Z3.out.size; have Z4 := Lib.hid ((Z3.out.alloc Z3.out.size (.cells #[.int .i64 q1.1, .string ⟨#[]⟩, .string ⟨#[]⟩] 71)).trans (ho4.below hgR (Nat.le_trans Z3.out.size (by simp)))); have X4 := Lib.hid hr4; have H4 := Lib.hid hp4; have c41 := (hp4.cell 1).trans rfl; have f41 := hp4.frozen 1; clear hr4 ho4 hp4 TA X3 O3 Z3)
          | (go_at_call 74; refine (TB.out (w4.setCell ⟨w3.heap.size, 1, none⟩ (.string (strOf q2.1))) (isBlk.far (j := 1) X4.out NR.out (.string (strOf q2.1)))).mono ?_; rintro e w5 ⟨rfl, hr5, ho5⟩; have hp5 : isBlk w5 w3.heap.size 71 #[.int .i64 q1.1, .string (strOf q2.1), .string ⟨#[]⟩] := ho5.blk (H4.out.put 1 _ rfl) (Ne.symm NR.out); have O5 := Lib.hid (own_only ho5 NG.out (own_far (j := 1) O4.out NE4.out (.string (strOf q2.1)))); have Z5 := Lib.hid ((Z4.out.setCell (p := ⟨w3.heap.size, 1, none⟩) ZP.out (.string (strOf q2.1))).trans (ho5.below hgR (Nat.le_trans Z4.out.size (by simp)))); have X5 := Lib.hid hr5; have H5 := Lib.hid hp5; have c52 := (hp5.cell 2).trans rfl; have f52 := hp5.frozen 2; have hp6 : isBlk (w5.setCell ⟨w3.heap.size, 2, none⟩ (.string (strOf q3.1))) w3.heap.size 71 #[.int .i64 q1.1, .string (strOf q2.1), .string (strOf q3.1)] := hp5.put 2 _ rfl; have d0 := (hp6.cell 0).trans rfl; have d1 := (hp6.cell 1).trans rfl; have d2 := (hp6.cell 2).trans rfl; clear hr5 ho5 hp5 hp6 TB O4 Z4 X4 H4 c41 f41)
          | (at_builtin; refine app_new appP rfl _ _ rfl w.heap.size _ k _ rfl (own_far (j := 2) O5.out NE4.out (.string (strOf q3.1))) #[.int .i64 q1.1, .string (strOf q2.1), .string (strOf q3.1)] 71 1 (by rw [size_set]; rfl) rfl (by intro u hu; simp at hu; rcases hu with rfl | rfl | rfl <;> rfl) (by decide) (by omega) (Nat.le_trans Z5.out.size (by simp)) ?_; intro g7 cap7 w7 hown7 hgr7 hbl7 hbg7; have X7 : Hid (isRd w7 gR q3.2) := Lib.hid ((hgr7.block gR (by have := X5.out.lt; simpa using this) (Ne.symm NG.out)).trans (isBlk.far (j := 2) X5.out NR.out (.string (strOf q3.1)))); have Z7 := Lib.hid ((Z5.out.setCell (p := ⟨w3.heap.size, 2, none⟩) ZP.out (.string (strOf q3.1))).trans hbl7); have O7 := Lib.hid hown7; clear hown7 hgr7 hbl7 d0 d1 d2 X5 O5 Z5 H5 c52 f52)
          | (go_at_call 75; refine (EC.out w7 X7.out).mono ?_; rintro e w8 ⟨rfl, rfl⟩)
          | (go_at_call 76; refine (rdone_calls gR q3.2 w7 X7.out).mono ?_; rintro e w8 ⟨rfl, rfl⟩))
        go_ret2
        rw [HP2.out]
        have hl : (acc ++ [(q1.1, q2.1, q3.1)]).length = k + 1 := by simp [hacc]
        refine ⟨some ⟨g7, 0, none⟩, cap7, by simp only [hl]; rfl, fun _ => ⟨g7, rfl, owned_parts (n := k + 1) (cap := cap7) (B := w.heap.size) (t := 71) ?_ hl.symm⟩, Z7.out⟩
        rw [List.flatMap_append]
        exact O7.out
    · obtain rfl : k = m := by omega
      rw [Nat.sub_self, Sp.pparts] at hp
      simp only [List.append_nil] at hp
      have DN := Lib.hid (rdone_calls gR x wr hx)
      have HO := Lib.hid hown
      have hn5 : n5 = k := by
        rcases hown.2 with ⟨h1, h2⟩ | ⟨g', cap', cur, h1, _⟩
        · injection h1 with _ h3; omega
        · injection h1
      subst hn5
      have HP := Lib.hid hp
      clear hown hx hp
      go_wp2_with (go_at_call 76; refine DN.out.mono ?_; rintro e w8 ⟨rfl, rfl⟩)
      go_ret2
      rw [HP.out]
      refine ⟨A5, cap5, by simp only [hacc]; rfl, fun hn => ?_, hb⟩
      obtain ⟨g', cap', he, _⟩ := owned_form HO.out (by rw [← hacc]; exact List.length_pos_iff.2 hn)
      injection he with h1 _ h3
      subst h1; subst h3
      exact ⟨_, rfl, owned_parts HO.out hacc.symm⟩
end Go.Proofs.YtbjdgiocehoaiaaDoor
