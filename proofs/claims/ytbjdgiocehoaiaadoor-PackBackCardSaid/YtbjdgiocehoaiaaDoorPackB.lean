/- Walks: why files may not be, the reference's. -/
import Derived.Test.YtbjdgiocehoaiaaDoorPackA
namespace Go.Proofs.YtbjdgiocehoaiaaDoor
open Go.RowKit
attribute [local go_sem] yUpon
set_option maxRecDepth 100000 in
set_option maxHeartbeats 2000000 in
theorem rpackcheck_calls (l : List Sp.File) (A : Option Addr) (cap : Nat) (w : World) (hf : FsA w A l) (hl : l.length ≤ 1000) (hz : ∀ f ∈ l, f.1.length < 4294967200) :
    Calls Tryd.prog 43 #[.slice A l.length cap] w fun e w' => e = .returned (.int .i64 (Sp.pcheck l)) ∧ Below w.heap.size w w' := by
  by_cases h128 : 128 < l.length
  · have e1 : decide ((128 : Int) < (l.length : Int)) = true := by rw [decide_eq_true_iff]; omega
    have F := Lib.hid (show Sp.pcheck l = 2 from if_pos h128)
    go_enter Tryd.func43, Tryd.ntmps43
    go_wp2_with fail
    go_ret
    exact ⟨by rw [F.out]; rfl, Below.refl _ _⟩
  · have e1 : decide ((128 : Int) < (l.length : Int)) = false := by rw [decide_eq_false_iff_not]; omega
    have F := Lib.hid (show Sp.pcheck l = Sp.pchk (prevOf l 0) (l.drop 0) from if_neg h128)
    go_enter Tryd.func43, Tryd.ntmps43
    go_wp2_with fail
    go_loopw [3] (fun v3 wr => ∃ k : Nat, k ≤ l.length ∧ v3 = .int .i64 k ∧ Sp.pcheck l = Sp.pchk (prevOf l k) (l.drop k) ∧ Below w.heap.size w wr) (fun v3 _ => l.length - (intOf v3).toNat)
    case atStart => exact ⟨0, Nat.zero_le _, rfl, F.out, Below.refl _ _⟩
    case round =>
      obtain ⟨k, hk, rfl, hp, hb⟩ := hrel
      by_cases hlt : k < l.length
      · have q1 : decide ((k : Int) < (l.length : Int)) = true := by rw [decide_eq_true_iff]; omega
        obtain ⟨g, o, rfl, hF⟩ := hf (by rintro rfl; simp at hlt)
        obtain ⟨c1, c2⟩ := hF.below hb k hlt
        have st := pchk_drop l k hlt
        have hz1 := hz _ (List.getElem_mem hlt)
        have PC := Lib.hid (rcheck_calls (strOf l[k].1) wr (by rw [strOf_size]; exact hz1))
        rw [strOf_data] at PC
        have s2 : (strOf l[k].2).size = l[k].2.length := strOf_size _
        by_cases hck : Sp.check l[k].1 = 0
        · rw [if_neg (by simpa using hck)] at st
          rw [hck] at PC
          by_cases h48 : 48 < l[k].2.length
          · rw [if_pos h48] at st
            have HF := Lib.hid (hp.trans st)
            have e2 : decide ((48 : Int) < (l[k].2.length : Int)) = true := by rw [decide_eq_true_iff]; omega
            clear hp st hck hz h48
            go_wp2_with (go_at_call 16; refine PC.out.mono ?_; rintro e w1 ⟨rfl, hb1⟩; have d2 := cellKept c2 hb1)
            go_ret
            exact ⟨by rw [HF.out]; rfl, hb.trans (hb1.mono hb.size)⟩
          · rw [if_neg h48] at st
            have e2 : decide ((48 : Int) < (l[k].2.length : Int)) = false := by rw [decide_eq_false_iff_not]; omega
            cases k with
            | zero =>
              rw [if_pos rfl] at st
              have HF := Lib.hid (hp.trans st)
              have c1' : wr.cell? ⟨g, o, none⟩ = some (.string (strOf l[0].1)) := by simpa using c1
              have c2' : wr.cell? ⟨g, o + 1, none⟩ = some (.string (strOf l[0].2)) := by simpa using c2
              clear hp st hck hz h48
              go_wp2_with (go_at_call 16; refine PC.out.mono ?_; rintro e w1 ⟨rfl, hb1⟩; have d2 := cellKept c2' hb1)
              have hb2 := hb.trans (hb1.mono hb.size)
              clear c1 c2 c1' c2' hb1 d2
              refine wp_region_det (fun W => Below w.heap.size w W) (by kernel_rfl) (by kernel_rfl) hb2.drew ?_
              repeat (first
                | (refine det_step (fun K hK => ?_)
                   apply Exists.intro
                   refine ⟨Or.inl ⟨rfl, fun W hS => ?_⟩, ?_⟩
                   · have hz : Below w.heap.size w W := hS
                     go_simp
                     first
                     | exact rfl
                     | exact ⟨rfl, hS⟩
                     | (fail)
                   go_simp
                   refine hK _ ?_
                   clear hK K)
                | (refine det_step (fun K hK => ?_); refine det_no' rfl ?_; go_simp; refine hK _ ?_; clear hK K))
              refine det_nil ?_
              intro W9 hS
              replace hS : Below w.heap.size w W9 := hS
              go_wp2_with fail
              go_roundw
              case rel => exact ⟨1, by omega, by go_num, HF.out, hS⟩
              case measure => simp [intOf]; omega
            | succ j =>
              rw [if_neg (by omega)] at st
              have hjl : j < l.length := by omega
              have c0 := (hF.below hb j hjl).1
              have CP := Lib.hid fun W => rcompare_calls (strOf l[j].1) (strOf l[j + 1].1) W (by rw [strOf_size]; exact hz _ (List.getElem_mem hjl)) (by rw [strOf_size]; exact hz1)
              simp only [strOf_data] at CP
              simp only [Nat.add_sub_cancel] at st
              obtain ⟨x, hx⟩ : ∃ x, x = Sp.compare l[j].1 l[j + 1].1 := ⟨_, rfl⟩
              rw [← hx] at CP st
              have e3 : decide ((0 : Int) < (j : Int) + 1) = true := by rw [decide_eq_true_iff]; omega
              have e4 : IntKind.i64.wrap (j : Int) = (j : Int) := IntWalk.i64_in _ (by omega)
              have e5 : (j : Int) + 1 < (l.length : Int) := by omega
              have e5' : (j : Int) < (l.length : Int) := by omega
              by_cases h0 : 0 ≤ x
              · rw [if_pos h0] at st
                have HF := Lib.hid (hp.trans st)
                have e6 : decide (0 ≤ x) = true := decide_eq_true h0
                clear hp st hck hz h48 hx h0
                go_wp2_with (go_at_call 16; refine PC.out.mono ?_; rintro e w1 ⟨rfl, hb1⟩; have d2 := cellKept c2 hb1; have d1 := cellKept c1 hb1; have d0 := cellKept c0 hb1)
                clear c1 c2 c0 PC
                refine wp_region_det (fun W => Below w1.heap.size w1 W) (by kernel_rfl) (by kernel_rfl) ((Below.refl _ _).drew) ?_
                repeat (first
                  | (refine det_step (fun K hK => ?_)
                     apply Exists.intro
                     refine ⟨Or.inl ⟨rfl, fun W hS => ?_⟩, ?_⟩
                     · have hz : Below w1.heap.size w1 W := hS; have f0 := cellKept d0 hz; have f1 := cellKept d1 hz
                       go_simp
                       first
                       | exact rfl
                       | exact ⟨rfl, hS⟩
                       | (refine (CP.out _).mono ?_; rintro e w' ⟨rfl, hb3⟩; exact ⟨rfl, hz.trans (hb3.mono hz.size)⟩)
                     go_simp
                     refine hK _ ?_
                     clear hK K)
                  | (refine det_step (fun K hK => ?_); refine det_no' rfl ?_; go_simp; refine hK _ ?_; clear hK K))
                refine det_nil ?_
                intro W9 hS
                replace hS : Below w1.heap.size w1 W9 := hS
                have hfin : Below w.heap.size w W9 := hb.trans ((hb1.trans (hS.mono hb1.size)).mono hb.size)
                go_wp2_with fail
                go_ret
                exact ⟨by rw [HF.out]; rfl, hfin⟩
              · rw [if_neg h0] at st
                have HF := Lib.hid (hp.trans st)
                have e6 : decide (0 ≤ x) = false := decide_eq_false h0
                clear hp st hck hz h48 hx h0
                go_wp2_with (go_at_call 16; refine PC.out.mono ?_; rintro e w1 ⟨rfl, hb1⟩; have d2 := cellKept c2 hb1; have d1 := cellKept c1 hb1; have d0 := cellKept c0 hb1)
                clear c1 c2 c0 PC
                refine wp_region_det (fun W => Below w1.heap.size w1 W) (by kernel_rfl) (by kernel_rfl) ((Below.refl _ _).drew) ?_
                repeat (first
                  | (refine det_step (fun K hK => ?_)
                     apply Exists.intro
                     refine ⟨Or.inl ⟨rfl, fun W hS => ?_⟩, ?_⟩
                     · have hz : Below w1.heap.size w1 W := hS; have f0 := cellKept d0 hz; have f1 := cellKept d1 hz
                       go_simp
                       first
                       | exact rfl
                       | exact ⟨rfl, hS⟩
                       | (refine (CP.out _).mono ?_; rintro e w' ⟨rfl, hb3⟩; exact ⟨rfl, hz.trans (hb3.mono hz.size)⟩)
                     go_simp
                     refine hK _ ?_
                     clear hK K)
                  | (refine det_step (fun K hK => ?_); refine det_no' rfl ?_; go_simp; refine hK _ ?_; clear hK K))
                refine det_nil ?_
                intro W9 hS
                replace hS : Below w1.heap.size w1 W9 := hS
                have hfin : Below w.heap.size w W9 := hb.trans ((hb1.trans (hS.mono hb1.size)).mono hb.size)
                go_wp2_with fail
                go_roundw
                case rel => exact ⟨j + 1 + 1, by omega, by go_num, HF.out, hfin⟩
                case measure => simp [intOf]; omega
        · rw [if_pos hck] at st
          have HF := Lib.hid (hp.trans st)
          obtain ⟨x, hx⟩ : ∃ x, x = Sp.check l[k].1 := ⟨_, rfl⟩
          rw [← hx] at HF PC hck
          have e2 : (x != 0) = true := by simpa using hck
          clear hp st hck hx hz
          go_wp2_with (go_at_call 16; refine PC.out.mono ?_; rintro e w1 ⟨rfl, hb1⟩)
          go_ret
          exact ⟨by rw [HF.out]; rfl, hb.trans (hb1.mono hb.size)⟩
      · obtain rfl : k = l.length := by omega
        have HF := Lib.hid (show Sp.pcheck l = 0 by rw [hp, List.drop_eq_nil_of_le (Nat.le_refl _)]; unfold Sp.pchk; rfl)
        clear hp
        go_wp2_with fail
        go_ret
        exact ⟨by rw [HF.out]; rfl, hb⟩
end Go.Proofs.YtbjdgiocehoaiaaDoor
