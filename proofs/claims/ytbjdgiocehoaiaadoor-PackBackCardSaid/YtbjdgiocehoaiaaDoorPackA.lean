/- Walks: why files may not be. -/
import Derived.Test.YtbjdgiocehoaiaaDoorSpec47
import Derived.Test.YtbjdgiocehoaiaaDoorPathsD
namespace Go.Proofs.YtbjdgiocehoaiaaDoor
open Go.RowKit
attribute [local go_sem] yUpon
/-- Files in a row, from an address on. -/
def Fs (w : World) (g o : Nat) (l : List Sp.File) : Prop := ∀ k, (h : k < l.length) → w.cell? ⟨g, o + k * 2, none⟩ = some (.string (strOf l[k].1)) ∧ w.cell? ⟨g, o + k * 2 + 1, none⟩ = some (.string (strOf l[k].2))
theorem Fs.below {w w' : World} {g o : Nat} {l : List Sp.File} (h : Fs w g o l) (hb : Below w.heap.size w w') : Fs w' g o l := fun k hk => ⟨cellKept (h k hk).1 hb, cellKept (h k hk).2 hb⟩
/-- A slice of files: where there are none its address is of no account. -/
def FsA (w : World) (A : Option Addr) (l : List Sp.File) : Prop := l ≠ [] → ∃ g o, A = some ⟨g, o, none⟩ ∧ Fs w g o l
theorem FsA.below {w w' : World} {A : Option Addr} {l : List Sp.File} (h : FsA w A l) (hb : Below w.heap.size w w') : FsA w' A l := fun hn => by
  obtain ⟨g, o, e, hf⟩ := h hn; exact ⟨g, o, e, hf.below hb⟩
/-- The path ahead of place k. -/
def prevOf (l : List Sp.File) (k : Nat) : Option Sp.Bs := if k = 0 then none else (l[k - 1]?).map (·.1)
theorem pchk_drop (l : List Sp.File) (k : Nat) (h : k < l.length) : Sp.pchk (prevOf l k) (l.drop k) = if Sp.check l[k].1 ≠ 0 then Sp.check l[k].1 else if 48 < l[k].2.length then 2 else
    if k = 0 then Sp.pchk (prevOf l (k + 1)) (l.drop (k + 1)) else if 0 ≤ Sp.compare (l[k - 1]'(by omega)).1 l[k].1 then 8 else Sp.pchk (prevOf l (k + 1)) (l.drop (k + 1)) := by
  have e : prevOf l (k + 1) = some l[k].1 := by unfold prevOf; rw [if_neg (by omega)]; simp [h]
  rw [e, List.drop_eq_getElem_cons h, Sp.pchk.eq_def]
  cases k with
  | zero => simp [prevOf]
  | succ j =>
    have e2 : prevOf l (j + 1) = some (l[j]'(by omega)).1 := by unfold prevOf; rw [if_neg (by omega)]; simp [show j < l.length by omega]
    rw [e2]; simp
set_option maxRecDepth 100000 in
set_option maxHeartbeats 2000000 in
theorem packcheck_calls (l : List Sp.File) (A : Option Addr) (cap : Nat) (w : World) (hf : FsA w A l) (hl : l.length ≤ 1000) (hz : ∀ f ∈ l, f.1.length < 4294967200) (hsh : ∃ m, w.cell? ⟨0, 0, none⟩ = some (.int .i64 m)) :
    Calls Tryd.prog 36 #[.slice A l.length cap] w fun e w' => e = .returned (.int .i64 (Sp.pcheck l)) ∧ Below w.heap.size w w' := by
  by_cases h128 : 128 < l.length
  · have e1 : decide ((128 : Int) < (l.length : Int)) = true := by rw [decide_eq_true_iff]; omega
    have F := Lib.hid (show Sp.pcheck l = 2 from if_pos h128)
    go_enter Tryd.func36, Tryd.ntmps36
    go_wp2_with fail
    go_ret
    exact ⟨by rw [F.out]; rfl, Below.refl _ _⟩
  · have e1 : decide ((128 : Int) < (l.length : Int)) = false := by rw [decide_eq_false_iff_not]; omega
    have F := Lib.hid (show Sp.pcheck l = Sp.pchk (prevOf l 0) (l.drop 0) from if_neg h128)
    go_enter Tryd.func36, Tryd.ntmps36
    go_wp2_with fail
    go_loopw [11] (fun v11 wr => ∃ k : Nat, k ≤ l.length ∧ v11 = .int .i64 k ∧ Sp.pcheck l = Sp.pchk (prevOf l k) (l.drop k) ∧ Below w.heap.size w wr) (fun v11 _ => l.length - (intOf v11).toNat)
    case atStart => exact ⟨0, Nat.zero_le _, rfl, F.out, Below.refl _ _⟩
    case round =>
      obtain ⟨k, hk, rfl, hp, hb⟩ := hrel
      by_cases hlt : k < l.length
      · have q1 : decide ((k : Int) < (l.length : Int)) = true := by rw [decide_eq_true_iff]; omega
        obtain ⟨g, o, rfl, hF⟩ := hf (by rintro rfl; simp at hlt)
        obtain ⟨c1, c2⟩ := hF.below hb k hlt
        have st := pchk_drop l k hlt
        have hsh1 := max_kept hsh hb
        have PC := Lib.hid fun W (hW : Below wr.heap.size wr W) => pcheck_calls (strOf l[k].1) W (max_kept hsh1 hW)
        rw [strOf_data] at PC
        have hz1 := hz _ (List.getElem_mem hlt)
        have s2 : (strOf l[k].2).size = l[k].2.length := strOf_size _
        by_cases hck : Sp.check l[k].1 = 0
        · rw [if_neg (by simpa using hck)] at st
          rw [hck] at PC
          by_cases h48 : 48 < l[k].2.length
          · rw [if_pos h48] at st
            have HF := Lib.hid (hp.trans st)
            have e2 : decide ((48 : Int) < (l[k].2.length : Int)) = true := by rw [decide_eq_true_iff]; omega
            clear hp st hck hz h48
            go_wp2_with (go_at_call 52; refine (PC.out _ ((Below.refl _ _).alloc (Nat.le_refl _) _)).mono ?_; rintro e w1 ⟨rfl, hb1⟩; have d2 : w1.cell? ⟨wr.heap.size, 1, none⟩ = some (.string (strOf l[k].2)) := cellKept (cell_of_row _ wr.heap.size 1 _ _ (0, 0) (heap_alloc_new wr _)) hb1)
            go_ret
            exact ⟨by rw [HF.out]; rfl, hb.trans (((Below.refl _ _).alloc hb.size _).trans (hb1.mono (by have := hb.size; simp; omega)))⟩
          · rw [if_neg h48] at st
            have e2 : decide ((48 : Int) < (l[k].2.length : Int)) = false := by rw [decide_eq_false_iff_not]; omega
            cases k with
            | zero =>
              rw [if_pos rfl] at st
              have HF := Lib.hid (hp.trans st)
              have c1' : wr.cell? ⟨g, o, none⟩ = some (.string (strOf l[0].1)) := by simpa using c1
              have c2' : wr.cell? ⟨g, o + 1, none⟩ = some (.string (strOf l[0].2)) := by simpa using c2
              clear hp st hck hz h48
              go_wp2_with (go_at_call 52; refine (PC.out _ ((Below.refl _ _).alloc (Nat.le_refl _) _)).mono ?_; rintro e w1 ⟨rfl, hb1⟩; have d2 : w1.cell? ⟨wr.heap.size, 1, none⟩ = some (.string (strOf l[0].2)) := cellKept (cell_of_row _ wr.heap.size 1 _ _ (0, 0) (heap_alloc_new wr _)) hb1)
              have hb2 := hb.trans (((Below.refl _ _).alloc hb.size (.cells #[.string (strOf l[0].1), .string (strOf l[0].2)] 57)).trans (hb1.mono (by have := hb.size; simp; omega)))
              clear d2 c1 c2 c1' c2' hb1
              refine wp_region_det (fun W => Below w.heap.size w W) (by kernel_rfl) (by kernel_rfl) hb2.drew ?_
              repeat (first
                | (refine det_step (fun K hK => ?_)
                   apply Exists.intro
                   refine ⟨Or.inl ⟨rfl, fun W hS => ?_⟩, ?_⟩
                   · have hz : Below w.heap.size w W := hS
                     go_simp
                     first
                     | exact rfl
                     | exact ⟨rfl, hS⟩
                     | (fail)
                   go_simp
                   refine hK _ ?_
                   clear hK K)
                | (refine det_step (fun K hK => ?_); refine det_no' rfl ?_; go_simp; refine hK _ ?_; clear hK K))
              refine det_nil ?_
              intro W9 hS
              replace hS : Below w.heap.size w W9 := hS
              go_wp2_with fail
              go_roundw
              case rel => exact ⟨1, by omega, by go_num, HF.out, hS⟩
              case measure => simp [intOf]; omega
            | succ j =>
              rw [if_neg (by omega)] at st
              have hjl : j < l.length := by omega
              have c0 := (hF.below hb j hjl).1
              have CP := Lib.hid fun W (hW : Below wr.heap.size wr W) => compare_calls (strOf l[j].1) (strOf l[j + 1].1) W (max_kept hsh1 hW) (by rw [strOf_size]; exact hz _ (List.getElem_mem hjl)) (by rw [strOf_size]; exact hz1)
              simp only [strOf_data] at CP
              simp only [Nat.add_sub_cancel] at st
              obtain ⟨x, hx⟩ : ∃ x, x = Sp.compare l[j].1 l[j + 1].1 := ⟨_, rfl⟩
              rw [← hx] at CP st
              have e3 : decide ((0 : Int) < (j : Int) + 1) = true := by rw [decide_eq_true_iff]; omega
              have e4 : IntKind.i64.wrap (j : Int) = (j : Int) := IntWalk.i64_in _ (by omega)
              have e5 : (j : Int) + 1 < (l.length : Int) := by omega
              have e5' : (j : Int) < (l.length : Int) := by omega
              by_cases h0 : 0 ≤ x
              · rw [if_pos h0] at st
                have HF := Lib.hid (hp.trans st)
                have e6 : decide (0 ≤ x) = true := decide_eq_true h0
                clear hp st hck hz h48 hx h0
                go_wp2_with (go_at_call 52; refine (PC.out _ ((Below.refl _ _).alloc (Nat.le_refl _) _)).mono ?_; rintro e w1 ⟨rfl, hb1⟩; have d2 : w1.cell? ⟨wr.heap.size, 1, none⟩ = some (.string (strOf l[j + 1].2)) := cellKept (cell_of_row _ wr.heap.size 1 _ _ (0, 0) (heap_alloc_new wr _)) hb1; have d1 : w1.cell? ⟨wr.heap.size, 0, none⟩ = some (.string (strOf l[j + 1].1)) := cellKept (cell_of_row _ wr.heap.size 0 _ _ (0, 0) (heap_alloc_new wr _)) hb1)
                have hbw : Below wr.heap.size wr w1 := (((Below.refl _ _).alloc (Nat.le_refl _) (.cells #[.string (strOf l[j + 1].1), .string (strOf l[j + 1].2)] 57)).trans (hb1.mono (by simp)))
                have d0 := cellKept c0 hbw
                clear d2 c1 c2 c0 PC
                refine wp_region_det (fun W => Below w1.heap.size w1 W) (by kernel_rfl) (by kernel_rfl) ((Below.refl _ _).drew) ?_
                repeat (first
                  | (refine det_step (fun K hK => ?_)
                     apply Exists.intro
                     refine ⟨Or.inl ⟨rfl, fun W hS => ?_⟩, ?_⟩
                     · have hz : Below w1.heap.size w1 W := hS; have f0 := cellKept d0 hz; have f1 := cellKept d1 hz
                       go_simp
                       first
                       | exact rfl
                       | exact ⟨rfl, hS⟩
                       | (refine (CP.out _ (hbw.trans (hz.mono hbw.size))).mono ?_; rintro e w' ⟨rfl, hb3⟩; exact ⟨rfl, hz.trans (hb3.mono hz.size)⟩)
                     go_simp
                     refine hK _ ?_
                     clear hK K)
                  | (refine det_step (fun K hK => ?_); refine det_no' rfl ?_; go_simp; refine hK _ ?_; clear hK K))
                refine det_nil ?_
                intro W9 hS
                replace hS : Below w1.heap.size w1 W9 := hS
                have hfin : Below w.heap.size w W9 := hb.trans ((hbw.trans (hS.mono hbw.size)).mono hb.size)
                go_wp2_with fail
                go_ret
                exact ⟨by rw [HF.out]; rfl, hfin⟩
              · rw [if_neg h0] at st
                have HF := Lib.hid (hp.trans st)
                have e6 : decide (0 ≤ x) = false := decide_eq_false h0
                clear hp st hck hz h48 hx h0
                go_wp2_with (go_at_call 52; refine (PC.out _ ((Below.refl _ _).alloc (Nat.le_refl _) _)).mono ?_; rintro e w1 ⟨rfl, hb1⟩; have d2 : w1.cell? ⟨wr.heap.size, 1, none⟩ = some (.string (strOf l[j + 1].2)) := cellKept (cell_of_row _ wr.heap.size 1 _ _ (0, 0) (heap_alloc_new wr _)) hb1; have d1 : w1.cell? ⟨wr.heap.size, 0, none⟩ = some (.string (strOf l[j + 1].1)) := cellKept (cell_of_row _ wr.heap.size 0 _ _ (0, 0) (heap_alloc_new wr _)) hb1)
                have hbw : Below wr.heap.size wr w1 := (((Below.refl _ _).alloc (Nat.le_refl _) (.cells #[.string (strOf l[j + 1].1), .string (strOf l[j + 1].2)] 57)).trans (hb1.mono (by simp)))
                have d0 := cellKept c0 hbw
                clear d2 c1 c2 c0 PC
                refine wp_region_det (fun W => Below w1.heap.size w1 W) (by kernel_rfl) (by kernel_rfl) ((Below.refl _ _).drew) ?_
                repeat (first
                  | (refine det_step (fun K hK => ?_)
                     apply Exists.intro
                     refine ⟨Or.inl ⟨rfl, fun W hS => ?_⟩, ?_⟩
                     · have hz : Below w1.heap.size w1 W := hS; have f0 := cellKept d0 hz; have f1 := cellKept d1 hz
                       go_simp
                       first
                       | exact rfl
                       | exact ⟨rfl, hS⟩
                       | (refine (CP.out _ (hbw.trans (hz.mono hbw.size))).mono ?_; rintro e w' ⟨rfl, hb3⟩; exact ⟨rfl, hz.trans (hb3.mono hz.size)⟩)
                     go_simp
                     refine hK _ ?_
                     clear hK K)
                  | (refine det_step (fun K hK => ?_); refine det_no' rfl ?_; go_simp; refine hK _ ?_; clear hK K))
                refine det_nil ?_
                intro W9 hS
                replace hS : Below w1.heap.size w1 W9 := hS
                have hfin : Below w.heap.size w W9 := hb.trans ((hbw.trans (hS.mono hbw.size)).mono hb.size)
                go_wp2_with fail
                go_roundw
                case rel => exact ⟨j + 1 + 1, by omega, by go_num, HF.out, hfin⟩
                case measure => simp [intOf]; omega
        · rw [if_pos hck] at st
          have HF := Lib.hid (hp.trans st)
          obtain ⟨x, hx⟩ : ∃ x, x = Sp.check l[k].1 := ⟨_, rfl⟩
          rw [← hx] at HF PC hck
          have e2 : (x != 0) = true := by simpa using hck
          clear hp st hck hx hz
          go_wp2_with (go_at_call 52; refine (PC.out _ ((Below.refl _ _).alloc (Nat.le_refl _) _)).mono ?_; rintro e w1 ⟨rfl, hb1⟩)
          go_ret
          exact ⟨by rw [HF.out]; rfl, hb.trans (((Below.refl _ _).alloc hb.size _).trans (hb1.mono (by have := hb.size; simp; omega)))⟩
      · obtain rfl : k = l.length := by omega
        have HF := Lib.hid (show Sp.pcheck l = 0 by rw [hp, List.drop_eq_nil_of_le (Nat.le_refl _)]; unfold Sp.pchk; rfl)
        clear hp
        go_wp2_with fail
        go_ret
        exact ⟨by rw [HF.out]; rfl, hb⟩
end Go.Proofs.YtbjdgiocehoaiaaDoor
