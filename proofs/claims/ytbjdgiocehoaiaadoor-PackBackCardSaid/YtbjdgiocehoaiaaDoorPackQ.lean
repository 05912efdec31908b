/- Walks: which files an archive has. -/
import Derived.Test.YtbjdgiocehoaiaaDoorPackP
namespace Go.Proofs.YtbjdgiocehoaiaaDoor
open Go.RowKit
attribute [local go_sem] yUpon
theorem lastP_snoc (acc : List Sp.File) (f : Sp.File) : Sp.lastP (acc ++ [f]) = f.1 := by simp [Sp.lastP]
/-- The path that a told file comes to. -/
def pathP (acc : List Sp.File) (p : Sp.Part) : Sp.Bs := (Sp.lastP acc).take p.1 ++ p.2.1
theorem pgo_step (acc : List Sp.File) (L : List Sp.Part) (k : Nat) (h : k < L.length) : Sp.pgo acc (L.drop k) = if (Sp.lastP acc).length < L[k].1 then ([], 7) else if Sp.common (Sp.lastP acc) (pathP acc L[k]) ≠ L[k].1 then ([], 7)
    else if Sp.check (pathP acc L[k]) ≠ 0 then ([], Sp.check (pathP acc L[k])) else if acc ≠ [] ∧ 0 ≤ Sp.compare (Sp.lastP acc) (pathP acc L[k]) then ([], 8)
    else Sp.pgo (acc ++ [(pathP acc L[k], L[k].2.2)]) (L.drop (k + 1)) := by
  rw [List.drop_eq_getElem_cons h, Sp.pgo.eq_def]; rfl
/-- What a reader of archives hands back. -/
def ToldF (r : List Sp.File × Int) (w : World) (e : Ending) (w' : World) : Prop :=
  ∃ A cap, e = .returned (.tuple #[.slice A r.1.length cap, .int .i64 r.2]) ∧ FsA w' A r.1 ∧ Below w.heap.size w w'
theorem toldF_none {w w' : World} {e : Ending} (x : Int) (he : e = .returned (.tuple #[.slice none 0 0, .int .i64 x])) (hb : Below w.heap.size w w') : ToldF ([], x) w e w' :=
  ⟨none, 0, he, fun h => absurd rfl h, hb⟩
set_option maxRecDepth 100000 in
set_option maxHeartbeats 4000000 in
theorem pread_calls (s : List UInt8) (w : World) (hs : s.length < 4294967200) (hsh : ∃ m, w.cell? ⟨0, 0, none⟩ = some (.int .i64 m)) :
    Calls Tryd.prog 23 #[.string (strOf s)] w fun e w' => ToldF (Sp.pread s) w e w' := by
  have O := Lib.hid (opened_calls s w hs)
  have F0 := Lib.hid (show Sp.pread s = if (Sp.popen s).2 ≠ 0 then ([], (Sp.popen s).2) else if Sp.rdone (Sp.pall2 (Sp.popen s).1).2 ≠ 0 then ([], Sp.rdone (Sp.pall2 (Sp.popen s).1).2) else Sp.pgo [] (Sp.pall2 (Sp.popen s).1).1 from rfl)
  have hpl : (Sp.popen s).1.length ≤ s.length := by
    unfold Sp.popen Sp.opened
    split
    · simp
    · rename_i t ht
      split at ht
      · cases ht
      · split at ht
        · injection ht with ht
          subst ht
          split
          · simp
          · split
            · simp
            · simp; omega
        · cases ht
  obtain ⟨t, ht⟩ : ∃ t, t = Sp.popen s := ⟨_, rfl⟩
  rw [← ht] at O F0 hpl
  clear ht
  by_cases h0 : t.2 = 0
  · rw [if_neg (by simpa using h0)] at F0
    have PC := Lib.hid fun W => pparts_calls t.1 W (by omega)
    have SM := Lib.hid (Sp.pall2_small t.1)
    obtain ⟨L, hL⟩ : ∃ L, L = (Sp.pall2 t.1).1 := ⟨_, rfl⟩
    obtain ⟨d, hd⟩ : ∃ d, d = Sp.rdone (Sp.pall2 t.1).2 := ⟨_, rfl⟩
    rw [← hL, ← hd] at F0
    simp only [← hL, ← hd] at PC
    rw [← hL] at SM
    rw [h0] at O
    clear hL hd h0
    by_cases h1 : d = 0
    · rw [if_neg (by simpa using h1)] at F0
      rw [h1] at PC
      clear h1
      go_enter Tryd.func23, Tryd.ntmps23
      go_wp2_with (first
        | (go_at_call 49; refine O.out.mono ?_; rintro e w1 ⟨rfl, hb1⟩; have Y1 := Lib.hid hb1; clear hb1)
        | (go_at_call 50; refine (PC.out _).mono ?_; rintro e w2 ⟨AL, capL, rfl, hpt, hb2⟩; have HPT := Lib.hid hpt; have Y2 := Lib.hid (Y1.out.trans (hb2.mono Y1.out.size)); clear hpt hb2))
      have HSH2 := Lib.hid (max_kept hsh Y2.out)
      clear hsh PC O Y1
      go_loopw [7, 8, 31] (fun v7 v8 v31 wr => ∃ (k : Nat) (acc : List Sp.File), k ≤ L.length ∧ v31 = .int .i64 k ∧ acc.length = k ∧ wr.ownsRow w2.heap.size 57 2 v7 k (acc.flatMap fileV) ∧ v8 = .string (strOf (Sp.lastP acc)) ∧ (Sp.lastP acc).length ≤ 200 ∧ Below w2.heap.size w2 wr ∧ Sp.pread s = Sp.pgo acc (L.drop k)) (fun _ _ v31 _ => L.length - (intOf v31).toNat)
      case atStart => exact ⟨0, [], Nat.zero_le _, rfl, rfl, World.ownsRow_nil _ _ _ _, rfl, by simp [Sp.lastP], Below.refl _ _, F0.out⟩
      case round =>
        obtain ⟨k, acc, hk, rfl, hacc, hown, rfl, hll, hb, hp⟩ := hrel
        obtain ⟨A7, n7, cap7, rfl⟩ := own_slice hown
        by_cases hlt : k < L.length
        · have q1 : decide ((k : Int) < (L.length : Int)) = true := by rw [decide_eq_true_iff]; omega
          obtain ⟨gP, rfl, hP⟩ := HPT.out (by rintro rfl; simp at hlt)
          obtain ⟨c0, c1, c2⟩ := hP.below hb k hlt
          have st := pgo_step acc L k hlt
          have hsm := SM.out.2 _ (List.getElem_mem hlt)
          have hL128 := SM.out.1
          obtain ⟨p, hpk⟩ : ∃ p, p = L[k] := ⟨_, rfl⟩
          rw [← hpk] at c0 c1 c2 st hsm
          have HO := Lib.hid hown
          have HFIN := Lib.hid fun W (h : Below wr.heap.size wr W) => Y2.out.trans ((hb.trans (h.mono hb.size)).mono Y2.out.size)
          have HBB := Lib.hid hb
          obtain ⟨lst, hlst⟩ : ∃ lst, lst = Sp.lastP acc := ⟨_, rfl⟩
          obtain ⟨pth, hpth⟩ : ∃ pth, pth = pathP acc p := ⟨_, rfl⟩
          have hpl2 : pth = lst.take p.1 ++ p.2.1 := by rw [hpth, hlst]; rfl
          have hps : pth.length ≤ 102 := by rw [hpl2, List.length_append, List.length_take]; omega
          rw [← hlst] at hll ⊢
          rw [← hlst, ← hpth] at st
          have s1 : (strOf lst).size = lst.length := strOf_size _
          clear hown hb hpk
          by_cases a1 : lst.length < p.1
          · rw [if_pos a1] at st
            have HP := Lib.hid (hp.trans st)
            have b1 : decide ((lst.length : Int) < (p.1 : Int)) = true := by rw [decide_eq_true_iff]; omega
            clear hp st hlst hpth hpl2
            go_wp2_with fail
            go_ret2
            rw [HP.out]
            exact toldF_none _ rfl (HFIN.out _ ((Below.refl _ _).alloc (Nat.le_refl _) _))
          · rw [if_neg a1] at st
            have b1 : decide ((lst.length : Int) < (p.1 : Int)) = false := by rw [decide_eq_false_iff_not]; omega
            have J := Lib.hid fun W => joined_calls lst p.1 p.2.1 W (by omega) (by omega) (by omega)
            rw [← hpl2] at J
            have CM := Lib.hid fun W => common_calls (strOf lst) (strOf pth) W (by omega)
            have CK := Lib.hid fun W (h : Below wr.heap.size wr W) => pcheck_calls (strOf pth) W (max_kept (max_kept HSH2.out HBB.out) h)
            have CP := Lib.hid fun W (h : Below wr.heap.size wr W) => compare_calls (strOf lst) (strOf pth) W (max_kept (max_kept HSH2.out HBB.out) h) (by omega) (by rw [strOf_size]; omega)
            simp only [strOf_data] at CM CK CP
            obtain ⟨cm, hcm⟩ : ∃ cm, cm = Sp.common lst pth := ⟨_, rfl⟩
            rw [← hcm] at CM st
            obtain ⟨ck, hck⟩ : ∃ ck, ck = Sp.check pth := ⟨_, rfl⟩
            rw [← hck] at CK st
            obtain ⟨cp, hcp⟩ : ∃ cp, cp = Sp.compare lst pth := ⟨_, rfl⟩
            rw [← hcp] at CP st
            clear hcm hck hcp hpl2
            by_cases a2 : cm = p.1
            · rw [if_neg (by simpa using a2)] at st
              have b2 : ((cm : Int) == (p.1 : Int)) = true := by rw [a2]; simp
              by_cases a3 : ck = 0
              · rw [if_neg (by simpa using a3)] at st
                have b3 : (ck == 0) = true := by simpa using a3
                by_cases a4 : acc ≠ [] ∧ 0 ≤ cp
                · rw [if_pos a4] at st
                  have HP := Lib.hid (hp.trans st)
                  have hk0 : 0 < k := by rw [← hacc]; exact List.length_pos_iff.2 a4.1
                  have b4 : decide ((0 : Int) < (k : Int)) = true := by rw [decide_eq_true_iff]; omega
                  have b5 : decide (0 ≤ cp) = true := decide_eq_true a4.2
                  clear hp st hlst hpth a2 a4
                  go_wp2_with (go_at_call 51; refine (J.out _).mono ?_; rintro e w3 ⟨rfl, hb3⟩; have E3 : Hid (isBlk w3 wr.heap.size 71 #[.int .i64 p.1, .string (strOf p.2.1), .string (strOf p.2.2)]) := Lib.hid (isBlk.below (show isBlk (wr.alloc (.cells #[.int .i64 p.1, .string (strOf p.2.1), .string (strOf p.2.2)] 71)) wr.heap.size 71 #[.int .i64 p.1, .string (strOf p.2.1), .string (strOf p.2.2)] from heap_alloc_new _ _) hb3); have Y3 : Hid (Below wr.heap.size wr w3) := Lib.hid (((Below.refl _ _).alloc (Nat.le_refl _) (.cells #[.int .i64 p.1, .string (strOf p.2.1), .string (strOf p.2.2)] 71)).trans (hb3.mono (by simp))); have d0 := (E3.out.cell 0).trans rfl; clear hb3)
                  refine wp_region_det (fun W => Below w3.heap.size w3 W) (by kernel_rfl) (by kernel_rfl) ((Below.refl _ _).drew) ?_
                  repeat (first
                    | (refine det_step (fun K hK => ?_)
                       apply Exists.intro
                       refine ⟨Or.inl ⟨rfl, fun W hS => ?_⟩, ?_⟩
                       · have hz : Below w3.heap.size w3 W := hS; have f0 := cellKept d0 hz
                         go_simp
                         first
                         | exact rfl
                         | exact ⟨rfl, hS⟩
                         | (refine (CM.out _).mono ?_; rintro e w' ⟨rfl, hb3⟩; exact ⟨rfl, hz.trans (hb3.mono hz.size)⟩)
                       go_simp
                       refine hK _ ?_
                       clear hK K)
                    | (refine det_step (fun K hK => ?_); refine det_no' rfl ?_; go_simp; refine hK _ ?_; clear hK K))
                  refine det_nil ?_
                  intro W9 hS
                  replace hS : Below w3.heap.size w3 W9 := hS
                  have Y9 : Hid (Below wr.heap.size wr W9) := Lib.hid (Y3.out.trans (hS.mono Y3.out.size))
                  have d2 := cellKept ((E3.out.cell 2).trans rfl) hS
                  clear d0 hS E3 Y3 c0 c1 c2
                  go_wp2_with (first
                    | (go_at_call 52; refine (CK.out _ Y9.out).mono ?_; rintro e w10 ⟨rfl, hb10⟩; have Y10 := Lib.hid (Y9.out.trans (hb10.mono Y9.out.size)); clear hb10)
                    | (go_at_call 53; refine (CP.out _ Y10.out).mono ?_; rintro e w11 ⟨rfl, hb11⟩; have Y11 := Lib.hid (Y10.out.trans (hb11.mono Y10.out.size)); clear hb11))
                  go_ret2
                  rw [HP.out]
                  exact toldF_none _ rfl (HFIN.out _ Y11.out)
                · rw [if_neg a4] at st
                  have HP := Lib.hid (hp.trans st)
                  have hrel2 : ∀ g cap (W : World), W.ownsRow w2.heap.size 57 2 (.slice (some ⟨g, 0, none⟩) (k + 1) cap) (k + 1) (acc.flatMap fileV ++ [.string (strOf pth), .string (strOf p.2.2)]) → Below w2.heap.size w2 W →
                      ∃ (k' : Nat) (acc' : List Sp.File), k' ≤ L.length ∧ Value.int .i64 ((k : Int) + 1) = .int .i64 k' ∧ acc'.length = k' ∧ W.ownsRow w2.heap.size 57 2 (.slice (some ⟨g, 0, none⟩) (k + 1) cap) k' (acc'.flatMap fileV) ∧ Value.string (strOf pth) = .string (strOf (Sp.lastP acc')) ∧ (Sp.lastP acc').length ≤ 200 ∧ Below w2.heap.size w2 W ∧ Sp.pread s = Sp.pgo acc' (L.drop k') := fun g cap W h1 h2 =>
                    ⟨k + 1, acc ++ [(pth, p.2.2)], by omega, by go_num, by simp [hacc], by rw [List.flatMap_append]; exact h1, by rw [lastP_snoc], by rw [lastP_snoc]; exact Nat.le_trans hps (by decide), h2, HP.out⟩
                  have HR := Lib.hid hrel2
                  clear hrel2 HP
                  cases k with
                  | zero =>
                    clear hp st hlst hpth a2 a4
                    have c0' : wr.cell? ⟨gP, 0, none⟩ = some (.int .i64 p.1) := by simpa using c0
                    have c1' : wr.cell? ⟨gP, 1, none⟩ = some (.string (strOf p.2.1)) := by simpa using c1
                    have c2' : wr.cell? ⟨gP, 2, none⟩ = some (.string (strOf p.2.2)) := by simpa using c2
                    go_wp2_with (go_at_call 51; refine (J.out _).mono ?_; rintro e w3 ⟨rfl, hb3⟩; have E3 : Hid (isBlk w3 wr.heap.size 71 #[.int .i64 p.1, .string (strOf p.2.1), .string (strOf p.2.2)]) := Lib.hid (isBlk.below (show isBlk (wr.alloc (.cells #[.int .i64 p.1, .string (strOf p.2.1), .string (strOf p.2.2)] 71)) wr.heap.size 71 #[.int .i64 p.1, .string (strOf p.2.1), .string (strOf p.2.2)] from heap_alloc_new _ _) hb3); have Y3 : Hid (Below wr.heap.size wr w3) := Lib.hid (((Below.refl _ _).alloc (Nat.le_refl _) (.cells #[.int .i64 p.1, .string (strOf p.2.1), .string (strOf p.2.2)] 71)).trans (hb3.mono (by simp))); have d0 := (E3.out.cell 0).trans rfl; clear hb3)
                    refine wp_region_det (fun W => Below w3.heap.size w3 W) (by kernel_rfl) (by kernel_rfl) ((Below.refl _ _).drew) ?_
                    repeat (first
                      | (refine det_step (fun K hK => ?_)
                         apply Exists.intro
                         refine ⟨Or.inl ⟨rfl, fun W hS => ?_⟩, ?_⟩
                         · have hz : Below w3.heap.size w3 W := hS; have f0 := cellKept d0 hz
                           go_simp
                           first
                           | exact rfl
                           | exact ⟨rfl, hS⟩
                           | (refine (CM.out _).mono ?_; rintro e w' ⟨rfl, hb3⟩; exact ⟨rfl, hz.trans (hb3.mono hz.size)⟩)
                         go_simp
                         refine hK _ ?_
                         clear hK K)
                      | (refine det_step (fun K hK => ?_); refine det_no' rfl ?_; go_simp; refine hK _ ?_; clear hK K))
                    refine det_nil ?_
                    intro W9 hS
                    replace hS : Below w3.heap.size w3 W9 := hS
                    have Y9 : Hid (Below wr.heap.size wr W9) := Lib.hid (Y3.out.trans (hS.mono Y3.out.size))
                    have d2 := cellKept ((E3.out.cell 2).trans rfl) hS
                    clear d0 hS E3 Y3 c0 c1 c2
                    clear c0' c1' c2'
                    go_wp2_with (first
                      | (go_at_call 52; refine (CK.out _ Y9.out).mono ?_; rintro e w10 ⟨rfl, hb10⟩; have Y10 := Lib.hid (Y9.out.trans (hb10.mono Y9.out.size)); have d3 := cellKept d2 hb10; clear hb10)
                      | (at_builtin; refine app_new appF rfl _ _ rfl w2.heap.size _ 0 _ rfl (own_below HO.out Y10.out) #[.string (strOf pth), .string (strOf p.2.2)] 57 1 rfl rfl (by intro u hu; simp at hu; rcases hu with rfl | rfl <;> rfl) (by decide) (by omega) (Nat.le_trans HBB.out.size Y10.out.size) ?_; intro g7 cap8 w7 hown7 hgr7 hbl7 hbg7; have O7 := Lib.hid hown7; have Z7 := Lib.hid ((HBB.out.trans (Y10.out.mono HBB.out.size)).trans hbl7); clear hown7 hgr7 hbl7 d3 d2))
                    go_roundw
                    case rel => exact HR.out _ _ _ O7.out Z7.out
                    case measure => simp [intOf]; omega
                  | succ j =>
                    have b5 : decide (0 ≤ cp) = false := by rw [decide_eq_false_iff_not]; intro h; exact a4 ⟨by rintro rfl; simp at hacc, h⟩
                    have b4 : decide ((0 : Int) < (j : Int) + 1) = true := by rw [decide_eq_true_iff]; omega
                    clear hp st hlst hpth a2 a4
                    go_wp2_with (go_at_call 51; refine (J.out _).mono ?_; rintro e w3 ⟨rfl, hb3⟩; have E3 : Hid (isBlk w3 wr.heap.size 71 #[.int .i64 p.1, .string (strOf p.2.1), .string (strOf p.2.2)]) := Lib.hid (isBlk.below (show isBlk (wr.alloc (.cells #[.int .i64 p.1, .string (strOf p.2.1), .string (strOf p.2.2)] 71)) wr.heap.size 71 #[.int .i64 p.1, .string (strOf p.2.1), .string (strOf p.2.2)] from heap_alloc_new _ _) hb3); have Y3 : Hid (Below wr.heap.size wr w3) := Lib.hid (((Below.refl _ _).alloc (Nat.le_refl _) (.cells #[.int .i64 p.1, .string (strOf p.2.1), .string (strOf p.2.2)] 71)).trans (hb3.mono (by simp))); have d0 := (E3.out.cell 0).trans rfl; clear hb3)
                    refine wp_region_det (fun W => Below w3.heap.size w3 W) (by kernel_rfl) (by kernel_rfl) ((Below.refl _ _).drew) ?_
                    repeat (first
                      | (refine det_step (fun K hK => ?_)
                         apply Exists.intro
                         refine ⟨Or.inl ⟨rfl, fun W hS => ?_⟩, ?_⟩
                         · have hz : Below w3.heap.size w3 W := hS; have f0 := cellKept d0 hz
                           go_simp
                           first
                           | exact rfl
                           | exact ⟨rfl, hS⟩
                           | (refine (CM.out _).mono ?_; rintro e w' ⟨rfl, hb3⟩; exact ⟨rfl, hz.trans (hb3.mono hz.size)⟩)
                         go_simp
                         refine hK _ ?_
                         clear hK K)
                      | (refine det_step (fun K hK => ?_); refine det_no' rfl ?_; go_simp; refine hK _ ?_; clear hK K))
                    refine det_nil ?_
                    intro W9 hS
                    replace hS : Below w3.heap.size w3 W9 := hS
                    have Y9 : Hid (Below wr.heap.size wr W9) := Lib.hid (Y3.out.trans (hS.mono Y3.out.size))
                    have d2 := cellKept ((E3.out.cell 2).trans rfl) hS
                    clear d0 hS E3 Y3 c0 c1 c2
                    go_wp2_with (first
                      | (go_at_call 52; refine (CK.out _ Y9.out).mono ?_; rintro e w10 ⟨rfl, hb10⟩; have Y10 := Lib.hid (Y9.out.trans (hb10.mono Y9.out.size)); have d3 := cellKept d2 hb10; clear hb10)
                      | (go_at_call 53; refine (CP.out _ Y10.out).mono ?_; rintro e w11 ⟨rfl, hb11⟩; have Y11 := Lib.hid (Y10.out.trans (hb11.mono Y10.out.size)); have d4 := cellKept d3 hb11; clear hb11)
                      | (at_builtin; refine app_new appF rfl _ _ rfl w2.heap.size _ (j + 1) _ rfl (own_below HO.out Y11.out) #[.string (strOf pth), .string (strOf p.2.2)] 57 1 rfl rfl (by intro u hu; simp at hu; rcases hu with rfl | rfl <;> rfl) (by decide) (by omega) (Nat.le_trans HBB.out.size Y11.out.size) ?_; intro g7 cap8 w7 hown7 hgr7 hbl7 hbg7; have O7 := Lib.hid hown7; have Z7 := Lib.hid ((HBB.out.trans (Y11.out.mono HBB.out.size)).trans hbl7); clear hown7 hgr7 hbl7 d4 d3 d2))
                    go_roundw
                    case rel => exact HR.out _ _ _ O7.out Z7.out
                    case measure => simp [intOf]; omega
              · rw [if_pos a3] at st
                have HP := Lib.hid (hp.trans st)
                have b3 : (ck == 0) = false := by simpa using a3
                have b4 : (ck != 0) = true := by simpa using a3
                clear hp st hlst hpth a2
                go_wp2_with (go_at_call 51; refine (J.out _).mono ?_; rintro e w3 ⟨rfl, hb3⟩; have E3 : Hid (isBlk w3 wr.heap.size 71 #[.int .i64 p.1, .string (strOf p.2.1), .string (strOf p.2.2)]) := Lib.hid (isBlk.below (show isBlk (wr.alloc (.cells #[.int .i64 p.1, .string (strOf p.2.1), .string (strOf p.2.2)] 71)) wr.heap.size 71 #[.int .i64 p.1, .string (strOf p.2.1), .string (strOf p.2.2)] from heap_alloc_new _ _) hb3); have Y3 : Hid (Below wr.heap.size wr w3) := Lib.hid (((Below.refl _ _).alloc (Nat.le_refl _) (.cells #[.int .i64 p.1, .string (strOf p.2.1), .string (strOf p.2.2)] 71)).trans (hb3.mono (by simp))); have d0 := (E3.out.cell 0).trans rfl; clear hb3)
                refine wp_region_det (fun W => Below w3.heap.size w3 W) (by kernel_rfl) (by kernel_rfl) ((Below.refl _ _).drew) ?_
                repeat (first
                  | (refine det_step (fun K hK => ?_)
                     apply Exists.intro
                     refine ⟨Or.inl ⟨rfl, fun W hS => ?_⟩, ?_⟩
                     · have hz : Below w3.heap.size w3 W := hS; have f0 := cellKept d0 hz
                       go_simp
                       first
                       | exact rfl
                       | exact ⟨rfl, hS⟩
                       | (refine (CM.out _).mono ?_; rintro e w' ⟨rfl, hb3⟩; exact ⟨rfl, hz.trans (hb3.mono hz.size)⟩)
                     go_simp
                     refine hK _ ?_
                     clear hK K)
                  | (refine det_step (fun K hK => ?_); refine det_no' rfl ?_; go_simp; refine hK _ ?_; clear hK K))
                refine det_nil ?_
                intro W9 hS
                replace hS : Below w3.heap.size w3 W9 := hS
                have Y9 : Hid (Below wr.heap.size wr W9) := Lib.hid (Y3.out.trans (hS.mono Y3.out.size))
                have d2 := cellKept ((E3.out.cell 2).trans rfl) hS
                clear d0 hS E3 Y3 c0 c1 c2
                go_wp2_with (go_at_call 52; refine (CK.out _ Y9.out).mono ?_; rintro e w10 ⟨rfl, hb10⟩; have Y10 := Lib.hid (Y9.out.trans (hb10.mono Y9.out.size)); clear hb10)
                go_ret2
                rw [HP.out]
                exact toldF_none _ rfl (HFIN.out _ Y10.out)
            · rw [if_pos a2] at st
              have HP := Lib.hid (hp.trans st)
              have b2 : ((cm : Int) == (p.1 : Int)) = false := by rw [beq_eq_false_iff_ne]; omega
              have b3 : ((cm : Int) != (p.1 : Int)) = true := by simp; omega
              clear hp st hlst hpth
              go_wp2_with (go_at_call 51; refine (J.out _).mono ?_; rintro e w3 ⟨rfl, hb3⟩; have E3 : Hid (isBlk w3 wr.heap.size 71 #[.int .i64 p.1, .string (strOf p.2.1), .string (strOf p.2.2)]) := Lib.hid (isBlk.below (show isBlk (wr.alloc (.cells #[.int .i64 p.1, .string (strOf p.2.1), .string (strOf p.2.2)] 71)) wr.heap.size 71 #[.int .i64 p.1, .string (strOf p.2.1), .string (strOf p.2.2)] from heap_alloc_new _ _) hb3); have Y3 : Hid (Below wr.heap.size wr w3) := Lib.hid (((Below.refl _ _).alloc (Nat.le_refl _) (.cells #[.int .i64 p.1, .string (strOf p.2.1), .string (strOf p.2.2)] 71)).trans (hb3.mono (by simp))); have d0 := (E3.out.cell 0).trans rfl; clear hb3)
              refine wp_region_det (fun W => Below w3.heap.size w3 W) (by kernel_rfl) (by kernel_rfl) ((Below.refl _ _).drew) ?_
              repeat (first
                | (refine det_step (fun K hK => ?_)
                   apply Exists.intro
                   refine ⟨Or.inl ⟨rfl, fun W hS => ?_⟩, ?_⟩
                   · have hz : Below w3.heap.size w3 W := hS; have f0 := cellKept d0 hz
                     go_simp
                     first
                     | exact rfl
                     | exact ⟨rfl, hS⟩
                     | (refine (CM.out _).mono ?_; rintro e w' ⟨rfl, hb3⟩; exact ⟨rfl, hz.trans (hb3.mono hz.size)⟩)
                   go_simp
                   refine hK _ ?_
                   clear hK K)
                | (refine det_step (fun K hK => ?_); refine det_no' rfl ?_; go_simp; refine hK _ ?_; clear hK K))
              refine det_nil ?_
              intro W9 hS
              replace hS : Below w3.heap.size w3 W9 := hS
              have Y9 : Hid (Below wr.heap.size wr W9) := Lib.hid (Y3.out.trans (hS.mono Y3.out.size))
              have d2 := cellKept ((E3.out.cell 2).trans rfl) hS
              clear d0 hS E3 Y3 c0 c1 c2
              go_wp2_with fail
              go_ret2
              rw [HP.out]
              exact toldF_none _ rfl (HFIN.out _ Y9.out)
        · obtain rfl : k = L.length := by omega
          rw [List.drop_eq_nil_of_le (Nat.le_refl _), Sp.pgo] at hp
          have HP := Lib.hid hp
          have HO := Lib.hid hown
          have hn7 : n7 = L.length := by
            rcases hown.2 with ⟨h1, h2⟩ | ⟨g', cap', cur, h1, _⟩
            · injection h1 with _ h3; omega
            · injection h1
          subst hn7
          clear hown hp
          go_wp2_with fail
          go_ret2
          rw [HP.out]
          refine ⟨A7, cap7, by simp only [hacc]; rfl, fun hn => ?_, Y2.out.trans (hb.mono Y2.out.size)⟩
          obtain ⟨g', cap', he, _⟩ := owned_form HO.out (by rw [← hacc]; exact List.length_pos_iff.2 hn)
          injection he with h1 _ h3
          subst h1; subst h3
          exact ⟨_, _, rfl, owned_files HO.out hacc.symm⟩
    · rw [if_pos h1] at F0
      have b1 : (d == 0) = false := by simpa using h1
      have b2 : (d != 0) = true := by simpa using h1
      clear h1
      go_enter Tryd.func23, Tryd.ntmps23
      go_wp2_with (first
        | (go_at_call 49; refine O.out.mono ?_; rintro e w1 ⟨rfl, hb1⟩; have Y1 := Lib.hid hb1; clear hb1)
        | (go_at_call 50; refine (PC.out _).mono ?_; rintro e w2 ⟨AL, capL, rfl, hpt, hb2⟩; have Y2 := Lib.hid (Y1.out.trans (hb2.mono Y1.out.size)); clear hpt hb2))
      go_ret2
      rw [F0.out]
      exact toldF_none _ rfl Y2.out
  · rw [if_pos h0] at F0
    have b1 : (t.2 == 0) = false := by simpa using h0
    have b2 : (t.2 != 0) = true := by simpa using h0
    clear h0
    go_enter Tryd.func23, Tryd.ntmps23
    go_wp2_with (go_at_call 49; refine O.out.mono ?_; rintro e w1 ⟨rfl, hb1⟩)
    go_ret2
    rw [F0.out]
    exact toldF_none _ rfl hb1
end Go.Proofs.YtbjdgiocehoaiaaDoor
