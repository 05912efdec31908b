/- Walks: which files an archive has, the reference's. -/
import Derived.Test.YtbjdgiocehoaiaaDoorPackQ
namespace Go.Proofs.YtbjdgiocehoaiaaDoor
open Go.RowKit
attribute [local go_sem] yUpon
theorem appI : AppStat Tryd.prog 78 3 1 8 := by
  refine ⟨Tryd.underlying78, by decide, by decide, ?_⟩
  obtain ⟨i0, hi, hz0, hz1, hz2⟩ := info_parts (show (Tryd.prog.info? 3).map (fun i => (i.zero, i.size, i.bytes)) = some (some (.int .i64 0), 1, 8) by kernel_rfl)
  exact ⟨i0, _, hi, hz0, hz1, hz2, rfl⟩
theorem appRF : AppStat Tryd.prog 29 46 2 32 := by
  refine ⟨Tryd.underlying29, by decide, by decide, ?_⟩
  obtain ⟨i0, hi, hz0, hz1, hz2⟩ := info_parts (show (Tryd.prog.info? 46).map (fun i => (i.zero, i.size, i.bytes)) = some (some (.agg #[.string ⟨#[]⟩, .string ⟨#[]⟩]), 2, 32) by kernel_rfl)
  exact ⟨i0, _, hi, hz0, hz1, hz2, rfl⟩
/-- A row in a block, as far as it goes. -/
def RowAt (w : World) (g t : Nat) (xs : List Value) : Prop := ∃ cur, isBlk w g t cur ∧ cur.toList.take xs.length = xs
theorem RowAt.of_own {w : World} {B g n cap t size : Nat} {xs : List Value} (h : w.ownsRow B t size (.slice (some ⟨g, 0, none⟩) n cap) n xs) : RowAt w g t xs ∧ B ≤ g := by
  rcases h.2 with ⟨h1, _⟩ | ⟨g', cap', cur, h1, hbg, hgg, _, _, _, htk⟩
  · cases h1
  · injection h1 with h2
    injection h2 with h2
    injection h2 with h2
    subst h2
    exact ⟨⟨cur, hgg, by rw [h.1]; exact htk⟩, hbg⟩
theorem RowAt.below {w w' : World} {g t : Nat} {xs : List Value} (h : RowAt w g t xs) (hb : Below w.heap.size w w') : RowAt w' g t xs := by
  obtain ⟨cur, h1, h2⟩ := h; exact ⟨cur, h1.below hb, h2⟩
theorem RowAt.far {w : World} {g g2 j t : Nat} {xs : List Value} (h : RowAt w g t xs) (hne : g ≠ g2) (u : Value) : RowAt (w.setCell ⟨g2, j, none⟩ u) g t xs := by
  obtain ⟨cur, h1, h2⟩ := h; exact ⟨cur, isBlk.far h1 hne u, h2⟩
theorem RowAt.set {w : World} {g t : Nat} {xs : List Value} (h : RowAt w g t xs) (j : Nat) (u : Value) : RowAt (w.setCell ⟨g, j, none⟩ u) g t (xs.set j u) := by
  obtain ⟨cur, h1, h2⟩ := h
  refine ⟨cur.setIfInBounds j u, h1.put j u rfl, ?_⟩
  rw [List.length_set, Array.toList_setIfInBounds, List.take_set, h2]
theorem RowAt.cell {w : World} {g t : Nat} {xs : List Value} (h : RowAt w g t xs) (j : Nat) (v : Value) (hv : xs[j]? = some v) : w.cell? ⟨g, j, none⟩ = some v := by
  obtain ⟨cur, h1, h2⟩ := h
  rw [h1.cell j, ← hv, ← h2, List.getElem?_take]
  have hj : j < xs.length := (List.getElem?_eq_some_iff.1 hv).1
  rw [if_pos hj]; simp
theorem RowAt.frozen {w : World} {g t : Nat} {xs : List Value} (h : RowAt w g t xs) (j : Nat) : w.frozen? ⟨g, j, none⟩ = false := by
  obtain ⟨cur, h1, _⟩ := h; exact h1.frozen j
theorem RowAt.ne {w : World} {g g' t t' : Nat} {xs ys : List Value} (h : RowAt w g t xs) (h' : RowAt w g' t' ys) (ht : t ≠ t') : g ≠ g' := by
  rintro rfl
  obtain ⟨cur, h1, _⟩ := h
  obtain ⟨cur', h2, _⟩ := h'
  have := (show w.heap[g]? = _ from h1).symm.trans h2
  simp at this
  exact ht this.2
theorem rows_apart {w : World} {B t t' size size' n n' : Nat} {v v' : Value} {xs ys : List Value} (h : w.ownsRow B t size v n xs) (h' : w.ownsRow B t' size' v' n' ys) (ht : t ≠ t') : v.ownBlock = none ∨ v.ownBlock ≠ v'.ownBlock := by
  rcases h.2 with ⟨rfl, _⟩ | ⟨g, cap, cur, rfl, _, hg, _⟩
  · exact .inl rfl
  · refine .inr fun e => ?_
    exact blk_not_row (show isBlk w g t cur from hg) ht h' (by rw [← e]; simp [Value.ownBlock])
/-- A file that is told, as it lies: what is behind, and its data. -/
def restV (p : Sp.Part) : List Value := [.string (strOf p.2.1), .string (strOf p.2.2)]
def numsV (L : List Sp.Part) : List Value := L.map fun p => .int .i64 p.1
/-- Files so far, and those to come. -/
def mixV (acc : List Sp.File) (l : List Sp.Part) : List Value := acc.flatMap fileV ++ l.flatMap restV
theorem fileV_len (acc : List Sp.File) : (acc.flatMap fileV).length = acc.length * 2 := by
  induction acc with
  | nil => rfl
  | cons f r ih => rw [List.flatMap_cons, List.length_append, ih]; simp [fileV]; omega
theorem mix_get (acc : List Sp.File) (p : Sp.Part) (l : List Sp.Part) : (mixV acc (p :: l))[acc.length * 2]? = some (.string (strOf p.2.1)) ∧ (mixV acc (p :: l))[acc.length * 2 + 1]? = some (.string (strOf p.2.2)) := by
  unfold mixV
  constructor
  · rw [List.getElem?_append_right (by rw [fileV_len]; omega), fileV_len]; simp [restV]
  · rw [List.getElem?_append_right (by rw [fileV_len]; omega), fileV_len, Nat.add_sub_cancel_left]; simp [restV]
theorem mix_set (acc : List Sp.File) (p : Sp.Part) (l : List Sp.Part) (q : Sp.Bs) : (mixV acc (p :: l)).set (acc.length * 2) (.string (strOf q)) = mixV (acc ++ [(q, p.2.2)]) l := by
  unfold mixV
  rw [List.set_append_right _ _ (by rw [fileV_len]; omega), fileV_len, Nat.sub_self]
  simp [restV, fileV]
set_option maxRecDepth 100000 in
set_option maxHeartbeats 8000000 in
theorem rpread_calls (s : List UInt8) (w : World) (hs : s.length < 4294967200) :
    Calls Tryd.prog 24 #[.string (strOf s)] w fun e w' => ToldF (Sp.pread s) w e w' := by
  have O := Lib.hid (ropen_calls (strOf s) w (by rw [strOf_size]; exact hs))
  rw [strOf_data] at O
  have F0 := Lib.hid (show Sp.pread s = if (Sp.popen s).2 ≠ 0 then ([], (Sp.popen s).2) else if Sp.rdone (Sp.pall2 (Sp.popen s).1).2 ≠ 0 then ([], Sp.rdone (Sp.pall2 (Sp.popen s).1).2) else Sp.pgo [] (Sp.pall2 (Sp.popen s).1).1 from rfl)
  cases ho : Sp.opened s with
  | none =>
    have hp : Sp.popen s = ([], 9) := by unfold Sp.popen; rw [ho]
    rw [hp] at F0
    have F1 := Lib.hid (show Sp.pread s = ([], 9) from F0.out.trans (if_pos (by decide)))
    rw [show openV s = .tuple #[.string ⟨#[]⟩, .bool false] by unfold openV; rw [ho]; rfl] at O
    clear ho hp F0
    go_enter Tryd.func24, Tryd.ntmps24
    go_wp2_with (go_at_call 54; refine O.out.mono ?_; rintro e w1 ⟨rfl, hb1⟩)
    go_ret2
    rw [F1.out]
    exact toldF_none _ rfl hb1
  | some t =>
    have hp : Sp.popen s = if t.length < 3 then ([], 5) else if t.take 3 ≠ [104, 97, 1] then ([], 7) else (t.drop 3, 0) := by unfold Sp.popen; rw [ho]
    have htl : t.length ≤ s.length := by
      unfold Sp.opened at ho
      split at ho
      · cases ho
      · split at ho
        · injection ho with ho
          subst ho
          simp
        · cases ho
    rw [show openV s = .tuple #[.string (strOf t), .bool true] by unfold openV; rw [ho]] at O
    have s1 : (strOf t).size = t.length := strOf_size _
    clear ho
    by_cases h3 : t.length < 3
    · rw [if_pos h3] at hp
      rw [hp] at F0
      have F1 := Lib.hid (show Sp.pread s = ([], 5) from F0.out.trans (if_pos (by decide)))
      have b1 : decide ((t.length : Int) < 3) = true := by rw [decide_eq_true_iff]; omega
      clear hp F0
      go_enter Tryd.func24, Tryd.ntmps24
      go_wp2_with (go_at_call 54; refine O.out.mono ?_; rintro e w1 ⟨rfl, hb1⟩)
      go_ret2
      rw [F1.out]
      exact toldF_none _ rfl hb1
    · rw [if_neg h3] at hp
      have b1 : decide ((t.length : Int) < 3) = false := by rw [decide_eq_false_iff_not]; omega
      have s2 := ext_take t 3
      have s3 := ext_drop t 3
      have s4 : (strOf (t.take 3)).toList = t.take 3 := strOf_toList _
      by_cases hm : t.take 3 = [104, 97, 1]
      · rw [if_neg (by simpa using hm)] at hp
        rw [hm] at s2 s4
        rw [hp] at F0
        have F1 := Lib.hid (show Sp.pread s = if Sp.rdone (Sp.pall2 (t.drop 3)).2 ≠ 0 then ([], Sp.rdone (Sp.pall2 (t.drop 3)).2) else Sp.pgo [] (Sp.pall2 (t.drop 3)).1 from F0.out.trans (if_neg (by simp)))
        obtain ⟨u, hu⟩ : ∃ u, u = t.drop 3 := ⟨_, rfl⟩
        have hul : u.length < 4294967200 := by rw [hu]; simp; omega
        rw [← hu] at F1 s3
        clear hp F0 hu hm
        have NB := Lib.hid fun g W h => rrnum_calls g 128 (u, 0) W h hul
        have P1 := Lib.hid (show Sp.pall2 u = ([] ++ (Sp.pparts ((Sp.rnum 128 (u, 0)).1 - 0) (Sp.rnum 128 (u, 0)).2).1, (Sp.pparts ((Sp.rnum 128 (u, 0)).1 - 0) (Sp.rnum 128 (u, 0)).2).2) from rfl)
        have L1 := Lib.hid (Sp.rnum_len 128 (u, 0))
        have hm := Sp.rnum_most (most := 128) (by decide) (u, 0)
        have M1 := Lib.hid (show (Sp.rnum 128 (u, 0)).2.2 ≠ 0 → (Sp.rnum 128 (u, 0)).1 = 0 by
          unfold Sp.rnum Sp.rpiece
          split
          · intro _; rfl
          · split
            · intro _; rfl
            · intro h; exact absurd rfl h)
        obtain ⟨m, hmm⟩ : ∃ m, m = (Sp.rnum 128 (u, 0)).1 := ⟨_, rfl⟩
        rw [← hmm] at NB P1 hm M1
        clear hmm
        go_enter Tryd.func24, Tryd.ntmps24
        go_wp2_with (first
          | (go_at_call 54; refine O.out.mono ?_; rintro e w1 ⟨rfl, hb1⟩; have Y1 := Lib.hid hb1; clear hb1)
          | (go_at_call 55; refine (NB.out w1.heap.size _ (show isRR (w1.alloc (.cells #[.string (strOf u), .int .i64 0] 76)) w1.heap.size (u, 0) from heap_alloc_new _ _)).mono ?_; rintro e w2 ⟨rfl, hr2, ho2⟩; have X2 := Lib.hid hr2; have Y2 := Lib.hid ((Y1.out.alloc Y1.out.size (.cells #[.string (strOf u), .int .i64 0] 76)).trans (ho2.below Y1.out.size (Nat.le_trans Y1.out.size (by simp)))); have hgR := Y1.out.size; clear hr2 ho2 Y1))
        obtain ⟨gR, hgg⟩ : ∃ gR, gR = w1.heap.size := ⟨_, rfl⟩
        rw [← hgg] at X2 hgR ⊢
        clear hgg NB O
        go_loopw [8, 9, 10] (fun v8 v9 v10 wr => ∃ (k : Nat) (x : Sp.R) (acc : List Sp.Part), k ≤ m ∧ v10 = .int .i64 k ∧ acc.length = k ∧ wr.ownsRow w.heap.size 3 1 v8 k (numsV acc) ∧ wr.ownsRow w.heap.size 46 2 v9 k (acc.flatMap restV) ∧ isRR wr gR x ∧ x.1.length ≤ u.length ∧ Below w.heap.size w wr ∧ ((x.2 = 0 ∧ Sp.pall2 u = (acc ++ (Sp.pparts (m - k) x).1, (Sp.pparts (m - k) x).2)) ∨ (x.2 ≠ 0 ∧ Sp.pall2 u = (acc, x)))) (fun _ _ v10 _ => m - (intOf v10).toNat)
        case atStart =>
          refine ⟨0, _, [], Nat.zero_le _, rfl, rfl, World.ownsRow_nil _ _ _ _, World.ownsRow_nil _ _ _ _, X2.out, L1.out, Y2.out, ?_⟩
          by_cases hx0 : (Sp.rnum 128 (u, 0)).2.2 = 0
          · exact .inl ⟨hx0, P1.out⟩
          · refine .inr ⟨hx0, ?_⟩
            have := P1.out
            rw [M1.out hx0, Nat.sub_self, Sp.pparts] at this
            exact this
        case round =>
          obtain ⟨k, x, acc, hk, rfl, hacc, hown8, hown9, hx, hxl, hb, hp⟩ := hrel
          obtain ⟨A8, n8, cap8, rfl⟩ := own_slice hown8
          obtain ⟨A9, n9, cap9, rfl⟩ := own_slice hown9
          have NG8 := Lib.hid (blk_not_row hx (by decide) hown8)
          have NG9 := Lib.hid (blk_not_row hx (by decide) hown9)
          have P0 := Lib.hid hown8
          have O0 := Lib.hid hown9
          have Z0 := Lib.hid hb
          have XX := Lib.hid hx
          have cE := (hx.cell 1).trans rfl
          by_cases hlt : k < m
          · have b1 : decide ((k : Int) < (m : Int)) = true := by rw [decide_eq_true_iff]; omega
            by_cases hx2 : x.2 = 0
            · have hp1 : Sp.pall2 u = (acc ++ (Sp.pparts (m - k) x).1, (Sp.pparts (m - k) x).2) := by
                rcases hp with h | h
                · exact h.2
                · exact absurd hx2 h.1
              rw [show m - k = (m - (k + 1)) + 1 by omega, Sp.pparts] at hp1
              obtain ⟨q1, hq1⟩ : ∃ q1, q1 = Sp.rnum 51 x := ⟨_, rfl⟩
              obtain ⟨q2, hq2⟩ : ∃ q2, q2 = Sp.rtext 51 q1.2 := ⟨_, rfl⟩
              obtain ⟨q3, hq3⟩ : ∃ q3, q3 = Sp.rtext 48 q2.2 := ⟨_, rfl⟩
              have hpo : Sp.pone x = ((q1.1, q2.1, q3.1), q3.2) := by rw [hq3, hq2, hq1]; rfl
              rw [hpo] at hp1
              simp only [] at hp1
              have l1 : q1.2.1.length ≤ x.1.length := by rw [hq1]; exact Sp.rnum_len _ _
              have l2 : q2.2.1.length ≤ q1.2.1.length := by rw [hq2]; exact Sp.rtext_len _ _
              have l3 : q3.2.1.length ≤ q2.2.1.length := by rw [hq3]; exact Sp.rtext_len _ _
              have N1 := Lib.hid (rrnum_calls gR 51 x wr hx (by omega))
              have TA := Lib.hid fun W h => rrtext_calls gR 51 q1.2 W h (by omega)
              have TB := Lib.hid fun W h => rrtext_calls gR 48 q2.2 W h (by omega)
              rw [← hq1] at N1
              rw [← hq2] at TA
              rw [← hq3] at TB
              have L3 := Lib.hid (show q3.2.1.length ≤ u.length by omega)
              have HP2 := Lib.hid (show (q3.2.2 = 0 ∧ Sp.pall2 u = ((acc ++ [(q1.1, q2.1, q3.1)]) ++ (Sp.pparts (m - (k + 1)) q3.2).1, (Sp.pparts (m - (k + 1)) q3.2).2)) ∨ (q3.2.2 ≠ 0 ∧ Sp.pall2 u = (acc ++ [(q1.1, q2.1, q3.1)], q3.2)) by
                by_cases h9 : q3.2.2 = 0
                · exact .inl ⟨h9, by rw [hp1, if_neg (by simpa using h9)]; simp⟩
                · exact .inr ⟨h9, by rw [hp1, if_pos h9]⟩)
              rw [hx2] at cE
              clear hown8 hown9 hx hp hp1 hpo hq1 hq2 hq3 l1 l2 l3 hb hxl hx2 XX
              go_wp2_with (first
                | (go_at_call 55; refine N1.out.mono ?_; rintro e w3 ⟨rfl, hr3, ho3⟩; have X3 := Lib.hid hr3; have P3 := Lib.hid (own_only ho3 NG8.out P0.out); have O3 := Lib.hid (own_only ho3 NG9.out O0.out); have Z3 := Lib.hid (Z0.out.trans (ho3.below hgR Z0.out.size)); clear hr3 ho3 P0 O0 Z0)
                | (at_builtin; refine app_new appI rfl _ _ rfl w.heap.size _ k _ rfl P3.out #[.int .i64 q1.1] 3 1 rfl rfl (by intro u hu; simp at hu; subst hu; rfl) (by decide) (by omega) Z3.out.size ?_; intro g4 cap4 w4 hown4 hgr4 hbl4 hbg4; have P4 := Lib.hid hown4; have O4 := Lib.hid (O3.out.kept hgr4 (rows_apart O3.out P3.out (by decide))); have X4 : Hid (isRR w4 gR q1.2) := Lib.hid ((hgr4.block gR X3.out.lt (Ne.symm (blk_not_row X3.out (by decide) P3.out))).trans X3.out); have Z4 := Lib.hid (Z3.out.trans hbl4); have NG4 := Lib.hid (blk_not_row X4.out (by decide) P4.out); clear hown4 hgr4 hbl4 P3 O3 X3 Z3)
                | (go_at_call 56; refine (TA.out w4 X4.out).mono ?_; rintro e w5 ⟨rfl, hr5, ho5⟩; have X5 := Lib.hid hr5; have P5 := Lib.hid (own_only ho5 NG4.out P4.out); have O5 := Lib.hid (own_only ho5 NG9.out O4.out); have Z5 := Lib.hid (Z4.out.trans (ho5.below hgR Z4.out.size)); clear hr5 ho5 TA P4 O4 X4 Z4)
                | (go_at_call 56; refine (TB.out (w5.alloc (.cells #[.string (strOf q2.1), .string ⟨#[]⟩] 46)) (X5.out.alloc _)).mono ?_; rintro e w6 ⟨rfl, hr6, ho6⟩; have hp6 : isBlk w6 w5.heap.size 46 #[.string (strOf q2.1), .string ⟨#[]⟩] := ho6.blk (heap_alloc_new w5 _) (Nat.ne_of_gt X5.out.lt); have P6 := Lib.hid (own_only ho6 NG4.out (P5.out.alloc (.cells #[.string (strOf q2.1), .string ⟨#[]⟩] 46))); have O6 := Lib.hid (own_only ho6 NG9.out (O5.out.alloc (.cells #[.string (strOf q2.1), .string ⟨#[]⟩] 46))); have NE8 := Lib.hid (own_new P5.out); have NE9 := Lib.hid (own_new O5.out); have NR := Lib.hid (Nat.ne_of_lt X5.out.lt); have ZP := Lib.hid Z5.out.size; have Z6 := Lib.hid ((Z5.out.alloc Z5.out.size (.cells #[.string (strOf q2.1), .string ⟨#[]⟩] 46)).trans (ho6.below hgR (Nat.le_trans Z5.out.size (by simp)))); have X6 := Lib.hid hr6; have c61 := (hp6.cell 1).trans rfl; have f61 := hp6.frozen 1; have hp7 : isBlk (w6.setCell ⟨w5.heap.size, 1, none⟩ (.string (strOf q3.1))) w5.heap.size 46 #[.string (strOf q2.1), .string (strOf q3.1)] := hp6.put 1 _ rfl; have d0 := (hp7.cell 0).trans rfl; have d1 := (hp7.cell 1).trans rfl; clear hr6 ho6 hp6 hp7 TB P5 O5 X5 Z5)
                | (at_builtin; refine app_new appRF rfl _ _ rfl w.heap.size _ k _ rfl (own_far (j := 1) O6.out NE9.out (.string (strOf q3.1))) #[.string (strOf q2.1), .string (strOf q3.1)] 46 1 (by rw [size_set]; rfl) rfl (by intro u hu; simp at hu; rcases hu with rfl | rfl <;> rfl) (by decide) (by omega) (Nat.le_trans Z6.out.size (by simp)) ?_; intro g7 cap7 w7 hown7 hgr7 hbl7 hbg7; have X7 : Hid (isRR w7 gR q3.2) := Lib.hid ((hgr7.block gR (by have := X6.out.lt; simpa using this) (Ne.symm NG9.out)).trans (isBlk.far (j := 1) X6.out NR.out (.string (strOf q3.1)))); have P7 := Lib.hid ((own_far (j := 1) P6.out NE8.out (.string (strOf q3.1))).kept hgr7 (rows_apart (own_far (j := 1) P6.out NE8.out (.string (strOf q3.1))) (own_far (j := 1) O6.out NE9.out (.string (strOf q3.1))) (by decide))); have Z7 := Lib.hid ((Z6.out.setCell (p := ⟨w5.heap.size, 1, none⟩) ZP.out (.string (strOf q3.1))).trans hbl7); have O7 := Lib.hid hown7; clear hown7 hgr7 hbl7 d0 d1 c61 f61 X6 P6 O6 Z6))
              go_roundw
              case rel =>
                refine ⟨k + 1, q3.2, acc ++ [(q1.1, q2.1, q3.1)], by omega, by go_num, by simp [hacc], ?_, ?_, X7.out, L3.out, Z7.out, HP2.out⟩
                · unfold numsV; rw [List.map_append]; exact P7.out
                · rw [List.flatMap_append]; exact O7.out
              case measure => simp [intOf]; omega
            · have HALL := Lib.hid (show Sp.pall2 u = (acc, x) by
                rcases hp with h | h
                · exact absurd h.1 hx2
                · exact h.2)
              have b2 : (x.2 == 0) = false := by simpa using hx2
              clear hown8 hown9 hx hp hb hxl hx2
              subst hacc
              have F2 := Lib.hid (show Sp.pread s = if Sp.rdone x ≠ 0 then ([], Sp.rdone x) else Sp.pgo [] acc by rw [F1.out, HALL.out])
              have SM := Lib.hid (show acc.length ≤ 128 ∧ ∀ p ∈ acc, p.1 ≤ 51 ∧ p.2.1.length ≤ 51 ∧ p.2.2.length ≤ 48 by have := Sp.pall2_small u; rw [HALL.out] at this; exact this)
              have DN := Lib.hid (rrdone_calls gR x wr XX.out)
              obtain ⟨d, hd⟩ : ∃ d, d = Sp.rdone x := ⟨_, rfl⟩
              rw [← hd] at F2 DN
              have hn8 : n8 = acc.length := by
                rcases P0.out.2 with ⟨h1, h2⟩ | ⟨g', cap', cur, h1, _⟩
                · injection h1 with _ h3; omega
                · injection h1
              have hn9 : n9 = acc.length := by
                rcases O0.out.2 with ⟨h1, h2⟩ | ⟨g', cap', cur, h1, _⟩
                · injection h1 with _ h3; omega
                · injection h1
              subst hn8 hn9
              have ROW : Hid (acc ≠ [] → ∃ g8 g9, A8 = some ⟨g8, 0, none⟩ ∧ A9 = some ⟨g9, 0, none⟩ ∧ w.heap.size ≤ g9 ∧ RowAt wr g8 3 (numsV acc) ∧ RowAt wr g9 46 (mixV [] (acc.drop 0))) := Lib.hid (fun hn => by
                have hpos : 0 < acc.length := List.length_pos_iff.2 hn
                obtain ⟨g8, c8, e8, _⟩ := owned_form P0.out hpos
                obtain ⟨g9, c9, e9, _⟩ := owned_form O0.out hpos
                injection e8 with a8 b8 d8
                injection e9 with a9 b9 d9
                subst a8 a9 d8 d9
                have h8 := P0.out
                have h9 := O0.out
                rw [b8] at h8
                rw [b9] at h9
                exact ⟨g8, g9, rfl, rfl, (RowAt.of_own h9).2, (RowAt.of_own h8).1, (RowAt.of_own h9).1⟩)
              have L128 := SM.out.1
              clear hd HALL P0 O0 NG8 NG9 XX P1 L1 M1
              go_wp2_with (go_at_call 57; refine DN.out.mono ?_; rintro e w8 ⟨rfl, rfl⟩)
              go_loopw [12, 13, 14] (fun v12 v13 v14 w9 => ∃ (j : Nat) (e : Int), j ≤ acc.length ∧ v14 = .int .i64 j ∧ v12 = .int .i64 e ∧ Below w.heap.size w w9 ∧ ((e ≠ 0 ∧ Sp.pread s = ([], e)) ∨ (e = 0 ∧ ∃ fs : List Sp.File, fs.length = j ∧ v13 = .string (strOf (Sp.lastP fs)) ∧ (Sp.lastP fs).length ≤ 200 ∧ (acc ≠ [] → ∃ g8 g9, A8 = some ⟨g8, 0, none⟩ ∧ A9 = some ⟨g9, 0, none⟩ ∧ w.heap.size ≤ g9 ∧ RowAt w9 g8 3 (numsV acc) ∧ RowAt w9 g9 46 (mixV fs (acc.drop j))) ∧ Sp.pread s = Sp.pgo fs (acc.drop j)))) (fun _ _ v14 _ => acc.length - (intOf v14).toNat)
              case atStart =>
                refine ⟨0, d, Nat.zero_le _, rfl, rfl, Z0.out, ?_⟩
                by_cases h0 : d = 0
                · exact .inr ⟨h0, [], rfl, rfl, by simp [Sp.lastP], ROW.out, by rw [F2.out, if_neg (by simpa using h0)]; rfl⟩
                · exact .inl ⟨h0, by rw [F2.out, if_pos h0]⟩
              case round =>
                clear F2 ROW DN
                obtain ⟨j, e, hj, rfl, rfl, hb9, hcase⟩ := hrel
                rcases hcase with ⟨he, hpr⟩ | ⟨rfl, fs, hfs, rfl, hll, hrow, hpg⟩
                · have HP := Lib.hid hpr
                  have x1 : (e == 0) = false := by simpa using he
                  have x2 : (e != 0) = true := by simpa using he
                  clear hpr he
                  by_cases hj2 : j < acc.length
                  · have y1 : decide ((j : Int) < (acc.length : Int)) = true := by rw [decide_eq_true_iff]; omega
                    go_wp2_with fail
                    go_ret2
                    rw [HP.out]
                    exact toldF_none _ rfl hb9
                  · have y1 : decide ((j : Int) < (acc.length : Int)) = false := by rw [decide_eq_false_iff_not]; omega
                    go_wp2_with fail
                    go_ret2
                    rw [HP.out]
                    exact toldF_none _ rfl hb9
                · by_cases hj2 : j < acc.length
                  · have y1 : decide ((j : Int) < (acc.length : Int)) = true := by rw [decide_eq_true_iff]; omega
                    obtain ⟨g8, g9, rfl, rfl, hg9, hr8, hr9⟩ := hrow (by rintro rfl; simp at hj2)
                    have st := pgo_step fs acc j hj2
                    have hsm := SM.out.2 _ (List.getElem_mem hj2)
                    rw [List.drop_eq_getElem_cons hj2] at hr9
                    have HNV := Lib.hid (show (numsV acc)[j]? = some (.int .i64 acc[j].1) by unfold numsV; rw [List.getElem?_map, List.getElem?_eq_getElem hj2]; rfl)
                    obtain ⟨p, hpk⟩ : ∃ p, p = acc[j] := ⟨_, rfl⟩
                    rw [← hpk] at st hsm hr9 HNV
                    have c8 := hr8.cell j _ HNV.out
                    have c91 := hr9.cell (fs.length * 2) _ (mix_get fs p (acc.drop (j + 1))).1
                    obtain ⟨lst, hlst⟩ : ∃ lst, lst = Sp.lastP fs := ⟨_, rfl⟩
                    obtain ⟨pth, hpth⟩ : ∃ pth, pth = pathP fs p := ⟨_, rfl⟩
                    have HMX := Lib.hid (mix_set fs p (acc.drop (j + 1)) pth)
                    rw [hfs] at c91 HMX
                    have hpl2 : pth = lst.take p.1 ++ p.2.1 := by rw [hpth, hlst]; rfl
                    have hps : pth.length ≤ 102 := by rw [hpl2, List.length_append, List.length_take]; omega
                    rw [← hlst] at hll ⊢
                    rw [← hlst, ← hpth] at st
                    have s1 : (strOf lst).size = lst.length := strOf_size _
                    clear hpk hrow
                    by_cases a1 : lst.length < p.1
                    · rw [if_pos a1] at st
                      have HP := Lib.hid (hpg.trans st)
                      have z1 : decide ((lst.length : Int) < (p.1 : Int)) = true := by rw [decide_eq_true_iff]; omega
                      clear hpg st hlst hpth hpl2
                      go_wp2_with fail
                      go_ret2
                      rw [HP.out]
                      exact toldF_none _ rfl hb9
                    · rw [if_neg a1] at st
                      have z1 : decide ((lst.length : Int) < (p.1 : Int)) = false := by rw [decide_eq_false_iff_not]; omega
                      have hnl : p.1 ≤ lst.length := by omega
                      have a1s : strOf (lst.take p.1) ++ strOf p.2.1 = strOf pth := by rw [hpl2, strOf_append, strOf_data]
                      have e1s := ext_take lst p.1
                      have sz1 : (strOf (lst.take p.1)).size ≤ 51 := by rw [strOf_size, List.length_take]; omega
                      have sz2 : (strOf p.2.1).size ≤ 51 := by rw [strOf_size]; omega
                      have sz3 : ¬ 9223372036854775807 < (strOf (lst.take p.1)).size + (strOf p.2.1).size := by omega
                      have CM := Lib.hid fun W => rcommon_calls (strOf lst) (strOf pth) W (by omega)
                      have CK := Lib.hid fun W => rcheck_calls (strOf pth) W (by rw [strOf_size]; omega)
                      have CP := Lib.hid fun W => rcompare_calls (strOf lst) (strOf pth) W (by omega) (by rw [strOf_size]; omega)
                      simp only [strOf_data] at CM CK CP
                      obtain ⟨cm, hcm⟩ : ∃ cm, cm = Sp.common lst pth := ⟨_, rfl⟩
                      rw [← hcm] at CM st
                      obtain ⟨ck, hck⟩ : ∃ ck, ck = Sp.check pth := ⟨_, rfl⟩
                      rw [← hck] at CK st
                      obtain ⟨cv, hcv⟩ : ∃ cv, cv = Sp.compare lst pth := ⟨_, rfl⟩
                      rw [← hcv] at CP st
                      clear hcm hck hcv hpl2
                      clear hlst hpth
                      go_wp2_with fail
                      refine wp_region_det_tail (fun W => Below wr.heap.size wr W) 14 (by kernel_rfl) (by kernel_rfl) (Below.refl _ _).drew ?_
                      simp only [List.take_succ_cons, List.take_zero, List.drop_succ_cons, List.drop_zero]
                      repeat (first
                        | (refine det_step (fun K hK => ?_)
                           apply Exists.intro
                           refine ⟨Or.inl ⟨rfl, fun W hS => ?_⟩, ?_⟩
                           · have hz : Below wr.heap.size wr W := hS; have f1 := cellKept c8 hz; have f2 := cellKept c91 hz
                             go_simp
                             first
                             | exact rfl
                             | exact ⟨rfl, hS⟩
                             | (fail)
                           go_simp
                           refine hK _ ?_
                           clear hK K)
                        | (refine det_step (fun K hK => ?_); refine det_no' rfl ?_; go_simp; refine hK _ ?_; clear hK K))
                      refine det_nil ?_
                      intro W5 hS
                      replace hS : Below wr.heap.size wr W5 := hS
                      have hfr5 : W5.frozen? ⟨g9, j * 2, none⟩ = false := (hr9.below hS).frozen (j * 2)
                      have c5 := cellKept c91 hS
                      go_wp2_with fail
                      have r9 : Hid (RowAt (W5.setCell ⟨g9, j * 2, none⟩ (.string (strOf pth))) g9 46 (mixV (fs ++ [(pth, p.2.2)]) (acc.drop (j + 1)))) := Lib.hid (by
                        have h := RowAt.set (hr9.below hS) (j * 2) (.string (strOf pth))
                        rw [HMX.out] at h
                        exact h)
                      have r8 : Hid (RowAt (W5.setCell ⟨g9, j * 2, none⟩ (.string (strOf pth))) g8 3 (numsV acc)) := Lib.hid ((hr8.below hS).far (hr8.ne hr9 (by decide)) _)
                      have ZW : Hid (Below w.heap.size w (W5.setCell ⟨g9, j * 2, none⟩ (.string (strOf pth)))) := Lib.hid ((hb9.trans (hS.mono hb9.size)).setCell hg9 _)
                      have cp := World.cell?_setCell_same' W5 ⟨g9, j * 2, none⟩ (.string (strOf pth)) (by rw [c5]; rfl)
                      have cn := r8.out.cell j _ HNV.out
                      obtain ⟨W6, hW6⟩ : ∃ W6, W6 = W5.setCell ⟨g9, j * 2, none⟩ (.string (strOf pth)) := ⟨_, rfl⟩
                      rw [← hW6] at r9 r8 ZW cp cn ⊢
                      clear hW6 c5 hfr5 hS c8 c91 hr8 hr9 hb9
                      refine wp_region_det (fun W => Below W6.heap.size W6 W) (by kernel_rfl) (by kernel_rfl) ((Below.refl _ _).drew) ?_
                      repeat (first
                        | (refine det_step (fun K hK => ?_)
                           apply Exists.intro
                           refine ⟨Or.inl ⟨rfl, fun W hS => ?_⟩, ?_⟩
                           · have hz : Below W6.heap.size W6 W := hS; have f1 := cellKept cp hz; have f2 := cellKept cn hz
                             go_simp
                             first
                             | exact rfl
                             | exact ⟨rfl, hS⟩
                             | (refine (CM.out _).mono ?_; rintro e w' ⟨rfl, hb3⟩; exact ⟨rfl, hz.trans (hb3.mono hz.size)⟩)
                           go_simp
                           refine hK _ ?_
                           clear hK K)
                        | (refine det_step (fun K hK => ?_); refine det_no' rfl ?_; go_simp; refine hK _ ?_; clear hK K))
                      refine det_nil ?_
                      intro W7 hS
                      replace hS : Below W6.heap.size W6 W7 := hS
                      have cq := cellKept cp hS
                      have R9 := Lib.hid (r9.out.below hS)
                      have R8 := Lib.hid (r8.out.below hS)
                      have Z7 := Lib.hid (ZW.out.trans (hS.mono ZW.out.size))
                      clear hS r9 r8 ZW cp cn
                      by_cases a2 : cm = p.1
                      · rw [if_neg (by simpa using a2)] at st
                        have b2 : ((cm : Int) == (p.1 : Int)) = true := by rw [a2]; simp
                        by_cases a3 : ck = 0
                        · rw [if_neg (by simpa using a3)] at st
                          rw [a3] at CK
                          by_cases a4 : fs ≠ [] ∧ 0 ≤ cv
                          · rw [if_pos a4] at st
                            have HP := Lib.hid (hpg.trans st)
                            have hj0 : 0 < j := by rw [← hfs]; exact List.length_pos_iff.2 a4.1
                            have b4 : decide ((0 : Int) < (j : Int)) = true := by rw [decide_eq_true_iff]; omega
                            have b5 : decide (0 ≤ cv) = true := decide_eq_true a4.2
                            clear hpg st a2 a4 a3
                            go_wp2_with (first
                              | (go_at_call 16; refine (CK.out _).mono ?_; rintro e w10 ⟨rfl, hb10⟩; have Z10 := Lib.hid (Z7.out.trans (hb10.mono Z7.out.size)); have cr := cellKept cq hb10; clear hb10 cq)
                              | (go_at_call 58; refine (CP.out _).mono ?_; rintro e w11 ⟨rfl, hb11⟩; have Z11 := Lib.hid (Z10.out.trans (hb11.mono Z10.out.size)); have ct := cellKept cr hb11; clear hb11 cr))
                            go_roundw
                            case rel => exact ⟨j + 1, 8, by omega, by go_num, rfl, Z11.out, .inl ⟨by decide, HP.out⟩⟩
                            case measure => simp [intOf]; omega
                          · rw [if_neg a4] at st
                            have HP := Lib.hid (hpg.trans st)
                            by_cases hj0 : j = 0
                            · have hjn : ¬ 0 < j := by omega
                              have b4 : decide ((0 : Int) < (j : Int)) = false := by rw [decide_eq_false_iff_not]; omega
                              clear hpg st a2 a4 a3 hj0
                              go_wp2_with (go_at_call 16; refine (CK.out _).mono ?_; rintro e w10 ⟨rfl, hb10⟩; have Z10 := Lib.hid (Z7.out.trans (hb10.mono Z7.out.size)); have cr := cellKept cq hb10; have T9 := Lib.hid (R9.out.below hb10); have T8 := Lib.hid (R8.out.below hb10); clear hb10 cq)
                              go_roundw
                              case rel => exact ⟨j + 1, 0, by omega, by go_num, rfl, Z10.out, .inr ⟨rfl, fs ++ [(pth, p.2.2)], by simp [hfs], by rw [lastP_snoc], by rw [lastP_snoc]; exact Nat.le_trans hps (by decide), fun _ => ⟨g8, g9, rfl, rfl, hg9, T8.out, T9.out⟩, HP.out⟩⟩
                              case measure => simp [intOf]; omega
                            · have hjp : 0 < j := by omega
                              have b4 : decide ((0 : Int) < (j : Int)) = true := by rw [decide_eq_true_iff]; omega
                              have b5 : decide (0 ≤ cv) = false := by rw [decide_eq_false_iff_not]; intro h; exact a4 ⟨by rintro rfl; exact hj0 (by simpa using hfs.symm), h⟩
                              clear hpg st a2 a4 a3 hj0
                              go_wp2_with (first
                                | (go_at_call 16; refine (CK.out _).mono ?_; rintro e w10 ⟨rfl, hb10⟩; have Z10 := Lib.hid (Z7.out.trans (hb10.mono Z7.out.size)); have cr := cellKept cq hb10; have T9 := Lib.hid (R9.out.below hb10); have T8 := Lib.hid (R8.out.below hb10); clear hb10 cq)
                                | (go_at_call 58; refine (CP.out _).mono ?_; rintro e w11 ⟨rfl, hb11⟩; have Z11 := Lib.hid (Z10.out.trans (hb11.mono Z10.out.size)); have ct := cellKept cr hb11; have V9 := Lib.hid (T9.out.below hb11); have V8 := Lib.hid (T8.out.below hb11); clear hb11 cr))
                              go_roundw
                              case rel => exact ⟨j + 1, 0, by omega, by go_num, rfl, Z11.out, .inr ⟨rfl, fs ++ [(pth, p.2.2)], by simp [hfs], by rw [lastP_snoc], by rw [lastP_snoc]; exact Nat.le_trans hps (by decide), fun _ => ⟨g8, g9, rfl, rfl, hg9, V8.out, V9.out⟩, HP.out⟩⟩
                              case measure => simp [intOf]; omega
                        · rw [if_pos a3] at st
                          have HP := Lib.hid (hpg.trans st)
                          have b3 : (ck == 0) = false := by simpa using a3
                          clear hpg st a2
                          go_wp2_with (go_at_call 16; refine (CK.out _).mono ?_; rintro e w10 ⟨rfl, hb10⟩; have Z10 := Lib.hid (Z7.out.trans (hb10.mono Z7.out.size)); have cr := cellKept cq hb10; clear hb10 cq)
                          go_roundw
                          case rel => exact ⟨j + 1, ck, by omega, by go_num, rfl, Z10.out, .inl ⟨a3, HP.out⟩⟩
                          case measure => simp [intOf]; omega
                      · rw [if_pos a2] at st
                        have HP := Lib.hid (hpg.trans st)
                        have b2 : ((cm : Int) == (p.1 : Int)) = false := by rw [beq_eq_false_iff_ne]; omega
                        clear hpg st
                        go_wp2_with fail
                        go_ret2
                        rw [HP.out]
                        exact toldF_none _ rfl Z7.out
                  · obtain rfl : j = acc.length := by omega
                    have y1 : decide ((acc.length : Int) < (acc.length : Int)) = false := by simp
                    rw [List.drop_eq_nil_of_le (Nat.le_refl _), Sp.pgo] at hpg
                    have HP := Lib.hid hpg
                    have HR := Lib.hid hrow
                    clear hpg hrow
                    go_wp2_with fail
                    go_ret2
                    rw [HP.out]
                    refine ⟨A9, cap9, by simp only [hfs]; rfl, fun hn => ?_, hb9⟩
                    obtain ⟨g8, g9, rfl, rfl, hg9, hr8, hr9⟩ := HR.out (by rintro rfl; exact hn (List.eq_nil_of_length_eq_zero hfs))
                    refine ⟨g9, 0, rfl, fun i hi => ?_⟩
                    rw [List.drop_eq_nil_of_le (Nat.le_refl _)] at hr9
                    unfold mixV at hr9
                    rw [List.flatMap_nil, List.append_nil] at hr9
                    have e0 := flat_get fs i 0 hi (by decide)
                    rw [Nat.add_zero] at e0
                    constructor
                    · rw [Nat.zero_add]; exact hr9.cell _ _ (e0.trans rfl)
                    · rw [Nat.zero_add]; exact hr9.cell _ _ ((flat_get fs i 1 hi (by decide)).trans rfl)
          · have HALL := Lib.hid (show Sp.pall2 u = (acc, x) by
              obtain rfl : k = m := by omega
              rcases hp with h | h
              · rw [h.2, Nat.sub_self, Sp.pparts]; simp
              · exact h.2)
            have b1 : decide ((k : Int) < (m : Int)) = false := by rw [decide_eq_false_iff_not]; omega
            clear hown8 hown9 hx hp hb hxl
            subst hacc
            have F2 := Lib.hid (show Sp.pread s = if Sp.rdone x ≠ 0 then ([], Sp.rdone x) else Sp.pgo [] acc by rw [F1.out, HALL.out])
            have SM := Lib.hid (show acc.length ≤ 128 ∧ ∀ p ∈ acc, p.1 ≤ 51 ∧ p.2.1.length ≤ 51 ∧ p.2.2.length ≤ 48 by have := Sp.pall2_small u; rw [HALL.out] at this; exact this)
            have DN := Lib.hid (rrdone_calls gR x wr XX.out)
            obtain ⟨d, hd⟩ : ∃ d, d = Sp.rdone x := ⟨_, rfl⟩
            rw [← hd] at F2 DN
            have hn8 : n8 = acc.length := by
              rcases P0.out.2 with ⟨h1, h2⟩ | ⟨g', cap', cur, h1, _⟩
              · injection h1 with _ h3; omega
              · injection h1
            have hn9 : n9 = acc.length := by
              rcases O0.out.2 with ⟨h1, h2⟩ | ⟨g', cap', cur, h1, _⟩
              · injection h1 with _ h3; omega
              · injection h1
            subst hn8 hn9
            have ROW : Hid (acc ≠ [] → ∃ g8 g9, A8 = some ⟨g8, 0, none⟩ ∧ A9 = some ⟨g9, 0, none⟩ ∧ w.heap.size ≤ g9 ∧ RowAt wr g8 3 (numsV acc) ∧ RowAt wr g9 46 (mixV [] (acc.drop 0))) := Lib.hid (fun hn => by
              have hpos : 0 < acc.length := List.length_pos_iff.2 hn
              obtain ⟨g8, c8, e8, _⟩ := owned_form P0.out hpos
              obtain ⟨g9, c9, e9, _⟩ := owned_form O0.out hpos
              injection e8 with a8 b8 d8
              injection e9 with a9 b9 d9
              subst a8 a9 d8 d9
              have h8 := P0.out
              have h9 := O0.out
              rw [b8] at h8
              rw [b9] at h9
              exact ⟨g8, g9, rfl, rfl, (RowAt.of_own h9).2, (RowAt.of_own h8).1, (RowAt.of_own h9).1⟩)
            have L128 := SM.out.1
            clear hd HALL P0 O0 NG8 NG9 XX P1 L1 M1
            go_wp2_with (go_at_call 57; refine DN.out.mono ?_; rintro e w8 ⟨rfl, rfl⟩)
            go_loopw [12, 13, 14] (fun v12 v13 v14 w9 => ∃ (j : Nat) (e : Int), j ≤ acc.length ∧ v14 = .int .i64 j ∧ v12 = .int .i64 e ∧ Below w.heap.size w w9 ∧ ((e ≠ 0 ∧ Sp.pread s = ([], e)) ∨ (e = 0 ∧ ∃ fs : List Sp.File, fs.length = j ∧ v13 = .string (strOf (Sp.lastP fs)) ∧ (Sp.lastP fs).length ≤ 200 ∧ (acc ≠ [] → ∃ g8 g9, A8 = some ⟨g8, 0, none⟩ ∧ A9 = some ⟨g9, 0, none⟩ ∧ w.heap.size ≤ g9 ∧ RowAt w9 g8 3 (numsV acc) ∧ RowAt w9 g9 46 (mixV fs (acc.drop j))) ∧ Sp.pread s = Sp.pgo fs (acc.drop j)))) (fun _ _ v14 _ => acc.length - (intOf v14).toNat)
            case atStart =>
              refine ⟨0, d, Nat.zero_le _, rfl, rfl, Z0.out, ?_⟩
              by_cases h0 : d = 0
              · exact .inr ⟨h0, [], rfl, rfl, by simp [Sp.lastP], ROW.out, by rw [F2.out, if_neg (by simpa using h0)]; rfl⟩
              · exact .inl ⟨h0, by rw [F2.out, if_pos h0]⟩
            case round =>
              clear F2 ROW DN
              obtain ⟨j, e, hj, rfl, rfl, hb9, hcase⟩ := hrel
              rcases hcase with ⟨he, hpr⟩ | ⟨rfl, fs, hfs, rfl, hll, hrow, hpg⟩
              · have HP := Lib.hid hpr
                have x1 : (e == 0) = false := by simpa using he
                have x2 : (e != 0) = true := by simpa using he
                clear hpr he
                by_cases hj2 : j < acc.length
                · have y1 : decide ((j : Int) < (acc.length : Int)) = true := by rw [decide_eq_true_iff]; omega
                  go_wp2_with fail
                  go_ret2
                  rw [HP.out]
                  exact toldF_none _ rfl hb9
                · have y1 : decide ((j : Int) < (acc.length : Int)) = false := by rw [decide_eq_false_iff_not]; omega
                  go_wp2_with fail
                  go_ret2
                  rw [HP.out]
                  exact toldF_none _ rfl hb9
              · by_cases hj2 : j < acc.length
                · have y1 : decide ((j : Int) < (acc.length : Int)) = true := by rw [decide_eq_true_iff]; omega
                  obtain ⟨g8, g9, rfl, rfl, hg9, hr8, hr9⟩ := hrow (by rintro rfl; simp at hj2)
                  have st := pgo_step fs acc j hj2
                  have hsm := SM.out.2 _ (List.getElem_mem hj2)
                  rw [List.drop_eq_getElem_cons hj2] at hr9
                  have HNV := Lib.hid (show (numsV acc)[j]? = some (.int .i64 acc[j].1) by unfold numsV; rw [List.getElem?_map, List.getElem?_eq_getElem hj2]; rfl)
                  obtain ⟨p, hpk⟩ : ∃ p, p = acc[j] := ⟨_, rfl⟩
                  rw [← hpk] at st hsm hr9 HNV
                  have c8 := hr8.cell j _ HNV.out
                  have c91 := hr9.cell (fs.length * 2) _ (mix_get fs p (acc.drop (j + 1))).1
                  obtain ⟨lst, hlst⟩ : ∃ lst, lst = Sp.lastP fs := ⟨_, rfl⟩
                  obtain ⟨pth, hpth⟩ : ∃ pth, pth = pathP fs p := ⟨_, rfl⟩
                  have HMX := Lib.hid (mix_set fs p (acc.drop (j + 1)) pth)
                  rw [hfs] at c91 HMX
                  have hpl2 : pth = lst.take p.1 ++ p.2.1 := by rw [hpth, hlst]; rfl
                  have hps : pth.length ≤ 102 := by rw [hpl2, List.length_append, List.length_take]; omega
                  rw [← hlst] at hll ⊢
                  rw [← hlst, ← hpth] at st
                  have s1 : (strOf lst).size = lst.length := strOf_size _
                  clear hpk hrow
                  by_cases a1 : lst.length < p.1
                  · rw [if_pos a1] at st
                    have HP := Lib.hid (hpg.trans st)
                    have z1 : decide ((lst.length : Int) < (p.1 : Int)) = true := by rw [decide_eq_true_iff]; omega
                    clear hpg st hlst hpth hpl2
                    go_wp2_with fail
                    go_ret2
                    rw [HP.out]
                    exact toldF_none _ rfl hb9
                  · rw [if_neg a1] at st
                    have z1 : decide ((lst.length : Int) < (p.1 : Int)) = false := by rw [decide_eq_false_iff_not]; omega
                    have hnl : p.1 ≤ lst.length := by omega
                    have a1s : strOf (lst.take p.1) ++ strOf p.2.1 = strOf pth := by rw [hpl2, strOf_append, strOf_data]
                    have e1s := ext_take lst p.1
                    have sz1 : (strOf (lst.take p.1)).size ≤ 51 := by rw [strOf_size, List.length_take]; omega
                    have sz2 : (strOf p.2.1).size ≤ 51 := by rw [strOf_size]; omega
                    have sz3 : ¬ 9223372036854775807 < (strOf (lst.take p.1)).size + (strOf p.2.1).size := by omega
                    have CM := Lib.hid fun W => rcommon_calls (strOf lst) (strOf pth) W (by omega)
                    have CK := Lib.hid fun W => rcheck_calls (strOf pth) W (by rw [strOf_size]; omega)
                    have CP := Lib.hid fun W => rcompare_calls (strOf lst) (strOf pth) W (by omega) (by rw [strOf_size]; omega)
                    simp only [strOf_data] at CM CK CP
                    obtain ⟨cm, hcm⟩ : ∃ cm, cm = Sp.common lst pth := ⟨_, rfl⟩
                    rw [← hcm] at CM st
                    obtain ⟨ck, hck⟩ : ∃ ck, ck = Sp.check pth := ⟨_, rfl⟩
                    rw [← hck] at CK st
                    obtain ⟨cv, hcv⟩ : ∃ cv, cv = Sp.compare lst pth := ⟨_, rfl⟩
                    rw [← hcv] at CP st
                    clear hcm hck hcv hpl2
                    clear hlst hpth
                    go_wp2_with fail
                    refine wp_region_det_tail (fun W => Below wr.heap.size wr W) 14 (by kernel_rfl) (by kernel_rfl) (Below.refl _ _).drew ?_
                    simp only [List.take_succ_cons, List.take_zero, List.drop_succ_cons, List.drop_zero]
                    repeat (first
                      | (refine det_step (fun K hK => ?_)
                         apply Exists.intro
                         refine ⟨Or.inl ⟨rfl, fun W hS => ?_⟩, ?_⟩
                         · have hz : Below wr.heap.size wr W := hS; have f1 := cellKept c8 hz; have f2 := cellKept c91 hz
                           go_simp
                           first
                           | exact rfl
                           | exact ⟨rfl, hS⟩
                           | (fail)
                         go_simp
                         refine hK _ ?_
                         clear hK K)
                      | (refine det_step (fun K hK => ?_); refine det_no' rfl ?_; go_simp; refine hK _ ?_; clear hK K))
                    refine det_nil ?_
                    intro W5 hS
                    replace hS : Below wr.heap.size wr W5 := hS
                    have hfr5 : W5.frozen? ⟨g9, j * 2, none⟩ = false := (hr9.below hS).frozen (j * 2)
                    have c5 := cellKept c91 hS
                    go_wp2_with fail
                    have r9 : Hid (RowAt (W5.setCell ⟨g9, j * 2, none⟩ (.string (strOf pth))) g9 46 (mixV (fs ++ [(pth, p.2.2)]) (acc.drop (j + 1)))) := Lib.hid (by
                      have h := RowAt.set (hr9.below hS) (j * 2) (.string (strOf pth))
                      rw [HMX.out] at h
                      exact h)
                    have r8 : Hid (RowAt (W5.setCell ⟨g9, j * 2, none⟩ (.string (strOf pth))) g8 3 (numsV acc)) := Lib.hid ((hr8.below hS).far (hr8.ne hr9 (by decide)) _)
                    have ZW : Hid (Below w.heap.size w (W5.setCell ⟨g9, j * 2, none⟩ (.string (strOf pth)))) := Lib.hid ((hb9.trans (hS.mono hb9.size)).setCell hg9 _)
                    have cp := World.cell?_setCell_same' W5 ⟨g9, j * 2, none⟩ (.string (strOf pth)) (by rw [c5]; rfl)
                    have cn := r8.out.cell j _ HNV.out
                    obtain ⟨W6, hW6⟩ : ∃ W6, W6 = W5.setCell ⟨g9, j * 2, none⟩ (.string (strOf pth)) := ⟨_, rfl⟩
                    rw [← hW6] at r9 r8 ZW cp cn ⊢
                    clear hW6 c5 hfr5 hS c8 c91 hr8 hr9 hb9
                    refine wp_region_det (fun W => Below W6.heap.size W6 W) (by kernel_rfl) (by kernel_rfl) ((Below.refl _ _).drew) ?_
                    repeat (first
                      | (refine det_step (fun K hK => ?_)
                         apply Exists.intro
                         refine ⟨Or.inl ⟨rfl, fun W hS => ?_⟩, ?_⟩
                         · have hz : Below W6.heap.size W6 W := hS; have f1 := cellKept cp hz; have f2 := cellKept cn hz
                           go_simp
                           first
                           | exact rfl
                           | exact ⟨rfl, hS⟩
                           | (refine (CM.out _).mono ?_; rintro e w' ⟨rfl, hb3⟩; exact ⟨rfl, hz.trans (hb3.mono hz.size)⟩)
                         go_simp
                         refine hK _ ?_
                         clear hK K)
                      | (refine det_step (fun K hK => ?_); refine det_no' rfl ?_; go_simp; refine hK _ ?_; clear hK K))
                    refine det_nil ?_
                    intro W7 hS
                    replace hS : Below W6.heap.size W6 W7 := hS
                    have cq := cellKept cp hS
                    have R9 := Lib.hid (r9.out.below hS)
                    have R8 := Lib.hid (r8.out.below hS)
                    have Z7 := Lib.hid (ZW.out.trans (hS.mono ZW.out.size))
                    clear hS r9 r8 ZW cp cn
                    by_cases a2 : cm = p.1
                    · rw [if_neg (by simpa using a2)] at st
                      have b2 : ((cm : Int) == (p.1 : Int)) = true := by rw [a2]; simp
                      by_cases a3 : ck = 0
                      · rw [if_neg (by simpa using a3)] at st
                        rw [a3] at CK
                        by_cases a4 : fs ≠ [] ∧ 0 ≤ cv
                        · rw [if_pos a4] at st
                          have HP := Lib.hid (hpg.trans st)
                          have hj0 : 0 < j := by rw [← hfs]; exact List.length_pos_iff.2 a4.1
                          have b4 : decide ((0 : Int) < (j : Int)) = true := by rw [decide_eq_true_iff]; omega
                          have b5 : decide (0 ≤ cv) = true := decide_eq_true a4.2
                          clear hpg st a2 a4 a3
                          go_wp2_with (first
                            | (go_at_call 16; refine (CK.out _).mono ?_; rintro e w10 ⟨rfl, hb10⟩; have Z10 := Lib.hid (Z7.out.trans (hb10.mono Z7.out.size)); have cr := cellKept cq hb10; clear hb10 cq)
                            | (go_at_call 58; refine (CP.out _).mono ?_; rintro e w11 ⟨rfl, hb11⟩; have Z11 := Lib.hid (Z10.out.trans (hb11.mono Z10.out.size)); have ct := cellKept cr hb11; clear hb11 cr))
                          go_roundw
                          case rel => exact ⟨j + 1, 8, by omega, by go_num, rfl, Z11.out, .inl ⟨by decide, HP.out⟩⟩
                          case measure => simp [intOf]; omega
                        · rw [if_neg a4] at st
                          have HP := Lib.hid (hpg.trans st)
                          by_cases hj0 : j = 0
                          · have hjn : ¬ 0 < j := by omega
                            have b4 : decide ((0 : Int) < (j : Int)) = false := by rw [decide_eq_false_iff_not]; omega
                            clear hpg st a2 a4 a3 hj0
                            go_wp2_with (go_at_call 16; refine (CK.out _).mono ?_; rintro e w10 ⟨rfl, hb10⟩; have Z10 := Lib.hid (Z7.out.trans (hb10.mono Z7.out.size)); have cr := cellKept cq hb10; have T9 := Lib.hid (R9.out.below hb10); have T8 := Lib.hid (R8.out.below hb10); clear hb10 cq)
                            go_roundw
                            case rel => exact ⟨j + 1, 0, by omega, by go_num, rfl, Z10.out, .inr ⟨rfl, fs ++ [(pth, p.2.2)], by simp [hfs], by rw [lastP_snoc], by rw [lastP_snoc]; exact Nat.le_trans hps (by decide), fun _ => ⟨g8, g9, rfl, rfl, hg9, T8.out, T9.out⟩, HP.out⟩⟩
                            case measure => simp [intOf]; omega
                          · have hjp : 0 < j := by omega
                            have b4 : decide ((0 : Int) < (j : Int)) = true := by rw [decide_eq_true_iff]; omega
                            have b5 : decide (0 ≤ cv) = false := by rw [decide_eq_false_iff_not]; intro h; exact a4 ⟨by rintro rfl; exact hj0 (by simpa using hfs.symm), h⟩
                            clear hpg st a2 a4 a3 hj0
                            go_wp2_with (first
                              | (go_at_call 16; refine (CK.out _).mono ?_; rintro e w10 ⟨rfl, hb10⟩; have Z10 := Lib.hid (Z7.out.trans (hb10.mono Z7.out.size)); have cr := cellKept cq hb10; have T9 := Lib.hid (R9.out.below hb10); have T8 := Lib.hid (R8.out.below hb10); clear hb10 cq)
                              | (go_at_call 58; refine (CP.out _).mono ?_; rintro e w11 ⟨rfl, hb11⟩; have Z11 := Lib.hid (Z10.out.trans (hb11.mono Z10.out.size)); have ct := cellKept cr hb11; have V9 := Lib.hid (T9.out.below hb11); have V8 := Lib.hid (T8.out.below hb11); clear hb11 cr))
                            go_roundw
                            case rel => exact ⟨j + 1, 0, by omega, by go_num, rfl, Z11.out, .inr ⟨rfl, fs ++ [(pth, p.2.2)], by simp [hfs], by rw [lastP_snoc], by rw [lastP_snoc]; exact Nat.le_trans hps (by decide), fun _ => ⟨g8, g9, rfl, rfl, hg9, V8.out, V9.out⟩, HP.out⟩⟩
                            case measure => simp [intOf]; omega
                      · rw [if_pos a3] at st
                        have HP := Lib.hid (hpg.trans st)
                        have b3 : (ck == 0) = false := by simpa using a3
                        clear hpg st a2
                        go_wp2_with (go_at_call 16; refine (CK.out _).mono ?_; rintro e w10 ⟨rfl, hb10⟩; have Z10 := Lib.hid (Z7.out.trans (hb10.mono Z7.out.size)); have cr := cellKept cq hb10; clear hb10 cq)
                        go_roundw
                        case rel => exact ⟨j + 1, ck, by omega, by go_num, rfl, Z10.out, .inl ⟨a3, HP.out⟩⟩
                        case measure => simp [intOf]; omega
                    · rw [if_pos a2] at st
                      have HP := Lib.hid (hpg.trans st)
                      have b2 : ((cm : Int) == (p.1 : Int)) = false := by rw [beq_eq_false_iff_ne]; omega
                      clear hpg st
                      go_wp2_with fail
                      go_ret2
                      rw [HP.out]
                      exact toldF_none _ rfl Z7.out
                · obtain rfl : j = acc.length := by omega
                  have y1 : decide ((acc.length : Int) < (acc.length : Int)) = false := by simp
                  rw [List.drop_eq_nil_of_le (Nat.le_refl _), Sp.pgo] at hpg
                  have HP := Lib.hid hpg
                  have HR := Lib.hid hrow
                  clear hpg hrow
                  go_wp2_with fail
                  go_ret2
                  rw [HP.out]
                  refine ⟨A9, cap9, by simp only [hfs]; rfl, fun hn => ?_, hb9⟩
                  obtain ⟨g8, g9, rfl, rfl, hg9, hr8, hr9⟩ := HR.out (by rintro rfl; exact hn (List.eq_nil_of_length_eq_zero hfs))
                  refine ⟨g9, 0, rfl, fun i hi => ?_⟩
                  rw [List.drop_eq_nil_of_le (Nat.le_refl _)] at hr9
                  unfold mixV at hr9
                  rw [List.flatMap_nil, List.append_nil] at hr9
                  have e0 := flat_get fs i 0 hi (by decide)
                  rw [Nat.add_zero] at e0
                  constructor
                  · rw [Nat.zero_add]; exact hr9.cell _ _ (e0.trans rfl)
                  · rw [Nat.zero_add]; exact hr9.cell _ _ ((flat_get fs i 1 hi (by decide)).trans rfl)
      · rw [if_pos hm] at hp
        rw [hp] at F0
        have F1 := Lib.hid (show Sp.pread s = ([], 7) from F0.out.trans (if_pos (by decide)))
        have b2 : (t.take 3 == [104, 97, 1]) = false := by simpa using hm
        have b3 : (t.take 3 != [104, 97, 1]) = true := by simpa using hm
        clear hp F0
        go_enter Tryd.func24, Tryd.ntmps24
        go_wp2_with (go_at_call 54; refine O.out.mono ?_; rintro e w1 ⟨rfl, hb1⟩)
        go_ret2
        rw [F1.out]
        exact toldF_none _ rfl hb1
end Go.Proofs.YtbjdgiocehoaiaaDoor
