/- Walks: files as an archive, the reference's. -/
import Derived.Test.YtbjdgiocehoaiaaDoorPackC
namespace Go.Proofs.YtbjdgiocehoaiaaDoor
open Go.RowKit
attribute [local go_sem] yUpon
set_option maxRecDepth 100000 in
set_option maxHeartbeats 4000000 in
theorem rpackbytes_calls (l : List Sp.File) (A : Option Addr) (cap : Nat) (w : World) (hf : FsA w A l) (hl : l.length ≤ 1000) (hz : ∀ f ∈ l, f.1.length ≤ 100000 ∧ f.2.length ≤ 100000) :
    Calls Tryd.prog 22 #[.slice A l.length cap] w fun e w' => e = .returned (.tuple #[.string (strOf (Sp.pbytes l).1), .int .i64 (Sp.pbytes l).2]) ∧ Below w.heap.size w w' := by
  have CK := Lib.hid fun W (hW : Below w.heap.size w W) => rpackcheck_calls l A cap W (hf.below hW) hl (fun f hm => by have := (hz f hm).1; omega)
  have FL := Lib.hid fun g x W h => rwfail_calls g x (Sp.pcheck l) W h
  have NL := Lib.hid fun g x W h h2 => rwnum_calls g x (l.length : Int) W h h2
  have PA := Lib.hid (show Sp.pall l = Sp.pbody (lastOf l 0) (l.drop 0) (Sp.wnum l.length (Sp.wfail (Sp.pcheck l) ([], 0))) from rfl)
  have L1 : (Sp.wnum l.length (Sp.wfail (Sp.pcheck l) ([], 0))).1.length ≤ 5 := by have := Sp.wnum_len (l.length : Int) (Sp.wfail (Sp.pcheck l) ([], 0)); rw [Sp.wfail_len] at this; simpa using this
  go_enter Tryd.func22, Tryd.ntmps22
  have W0 : isRW (w.alloc (.cells #[.string ⟨#[]⟩, .int .i64 0] 64)) w.heap.size ([], 0) := heap_alloc_new _ _
  have HB0 : Below w.heap.size w (w.alloc (.cells #[.string ⟨#[]⟩, .int .i64 0] 64)) := (Below.refl _ _).alloc (Nat.le_refl _) _
  have X0 := Lib.hid W0
  have Y0 := Lib.hid HB0
  clear W0 HB0
  go_wp2_with (first
    | (go_at_call 43; refine (CK.out _ Y0.out).mono ?_; rintro e w1 ⟨rfl, hb1⟩; have X1 := Lib.hid (X0.out.below hb1); have Y1 := Lib.hid (Y0.out.trans (hb1.mono Y0.out.size)); clear hb1 X0 Y0)
    | (go_at_call 42; refine (FL.out _ ([], 0) _ X1.out).mono ?_; rintro e w2 ⟨rfl, hw2, hb2⟩; have X2 := Lib.hid hw2; have Y2 := Lib.hid (Y1.out.trans (hb2.below (Nat.le_refl _) Y1.out.size)); clear hw2 hb2 X1 Y1)
    | (go_at_call 44; refine (NL.out _ (Sp.wfail (Sp.pcheck l) ([], 0)) _ X2.out (by rw [Sp.wfail_len]; simp)).mono ?_; rintro e w3 ⟨rfl, hw3, hb3⟩; have X3 := Lib.hid hw3; have Y3 := Lib.hid (Y2.out.trans (hb3.below (Nat.le_refl _) Y2.out.size)); clear hw3 hb3 X2 Y2))
  clear CK FL NL
  go_loopw [5] (fun v5 wr => ∃ (k : Nat) (x : Sp.W), k ≤ l.length ∧ v5 = .int .i64 k ∧ isRW wr w.heap.size x ∧ Below w.heap.size w wr ∧ Sp.pall l = Sp.pbody (lastOf l k) (l.drop k) x ∧ x.1.length ≤ 5 + k * 200015) (fun v5 _ => l.length - (intOf v5).toNat)
  case atStart => exact ⟨0, _, Nat.zero_le _, rfl, X3.out, Y3.out, PA.out, by omega⟩
  case round =>
    obtain ⟨k, x, hk, rfl, hx, hb, hpa, hxl⟩ := hrel
    by_cases hlt : k < l.length
    · have q1 : decide ((k : Int) < (l.length : Int)) = true := by rw [decide_eq_true_iff]; omega
      obtain ⟨g, o, rfl, hF⟩ := hf (by rintro rfl; simp at hlt)
      have HFS := Lib.hid hF
      have hzk := hz _ (List.getElem_mem hlt)
      have st := pbody_drop l k hlt x
      have HLST := Lib.hid (show lastOf l k = if k = 0 then [] else ((l[k - 1]?).map (·.1)).getD [] from rfl)
      obtain ⟨lst, hlst⟩ : ∃ lst, lst = lastOf l k := ⟨_, rfl⟩
      have hlen : lst.length ≤ 100000 := by
        rw [hlst]; unfold lastOf; split
        · simp
        · rename_i h0
          have : k - 1 < l.length := by omega
          simp only [List.getElem?_eq_getElem this, Option.map_some, Option.getD_some]
          exact (hz _ (List.getElem_mem this)).1
      rw [← hlst] at hpa st HLST
      obtain ⟨f, hfk⟩ : ∃ f, f = l[k] := ⟨_, rfl⟩
      obtain ⟨c1, c2⟩ := hF k hlt
      rw [← hfk] at hzk st c1 c2
      have hcl := (common_le lst f.1).2
      have CM := Lib.hid fun W => rcommon_calls (strOf lst) (strOf f.1) W (by rw [strOf_size]; omega)
      simp only [strOf_data] at CM
      obtain ⟨n, hn⟩ : ∃ n, n = Sp.common lst f.1 := ⟨_, rfl⟩
      have HN := Lib.hid hn
      rw [← hn] at CM hcl st
      have HP := Lib.hid (hpa.trans st)
      have s1 : (strOf f.1).size = f.1.length := strOf_size _
      have s2 := ext_drop f.1 n
      have NL := Lib.hid fun W h => rwnum_calls w.heap.size x (n : Int) W h (by omega)
      have hx1 : (Sp.wnum n x).1.length ≤ 5 + k * 200015 + 5 := by have := Sp.wnum_len n x; omega
      have hx2 : (Sp.wtext (f.1.drop n) (Sp.wnum n x)).1.length ≤ 5 + k * 200015 + 5 + 100005 := by have := Sp.wtext_len (f.1.drop n) (Sp.wnum n x); rw [List.length_drop] at this; omega
      have HX3 := Lib.hid (show (Sp.wtext f.2 (Sp.wtext (f.1.drop n) (Sp.wnum n x))).1.length ≤ 5 + (k + 1) * 200015 by have := Sp.wtext_len f.2 (Sp.wtext (f.1.drop n) (Sp.wnum n x)); omega)
      have TA := Lib.hid fun W h => rwtext_calls w.heap.size (Sp.wnum n x) (strOf (f.1.drop n)) W h (by omega) (by rw [strOf_size, List.length_drop]; omega)
      have TB := Lib.hid fun W h => rwtext_calls w.heap.size (Sp.wtext (f.1.drop n) (Sp.wnum n x)) (strOf f.2) W h (by omega) (by rw [strOf_size]; omega)
      simp only [strOf_data] at TA TB
      have Y0 := Lib.hid hb
      obtain ⟨t, ht⟩ : ∃ t, t = f.1.drop n := ⟨_, rfl⟩
      rw [← ht] at s2 TA TB HP HX3
      clear st hx1 hx2 hpa ht
      cases k with
      | zero =>
        have e0 : n = 0 := by rw [hn, HLST.out, if_pos rfl]; unfold Sp.common; rfl
        subst e0
        have X1 := Lib.hid hx
        have d1 : wr.cell? ⟨g, o, none⟩ = some (.string (strOf f.1)) := (cellKept c1 hb).trans rfl |> fun h => by simpa using h
        have d2 : wr.cell? ⟨g, o + 1, none⟩ = some (.string (strOf f.2)) := by simpa using cellKept c2 hb
        replace c1 : w.cell? ⟨g, o, none⟩ = some (.string (strOf f.1)) := by simpa using c1
        replace c2 : w.cell? ⟨g, o + 1, none⟩ = some (.string (strOf f.2)) := by simpa using c2
        have Y1 := Y0
        clear Y0 hx hlst hfk hn hb CM
        go_wp2_with (first
          | (go_at_call 44; refine (NL.out _ X1.out).mono ?_; rintro e w2 ⟨rfl, hw2, hb2⟩; have X2 := Lib.hid hw2; have hyb := Y1.out.trans (hb2.below (Nat.le_refl _) Y1.out.size); have Y2 := Lib.hid hyb; have d1 := cellKept c1 hyb; clear hw2 hb2 hyb X1 Y1)
          | (go_at_call 46; refine (TA.out _ X2.out).mono ?_; rintro e w3 ⟨rfl, hw3, hb3⟩; have X3 := Lib.hid hw3; have hyb := Y2.out.trans (hb3.below (Nat.le_refl _) Y2.out.size); have Y3 := Lib.hid hyb; have d2 := cellKept c2 hyb; clear hw3 hb3 hyb X2 Y2 TA)
          | (go_at_call 46; refine (TB.out _ X3.out).mono ?_; rintro e w4 ⟨rfl, hw4, hb4⟩; have X4 := Lib.hid hw4; have Y4 := Lib.hid (Y3.out.trans (hb4.below (Nat.le_refl _) Y3.out.size)); clear hw4 hb4 X3 Y3 TB))
        go_roundw
        case rel => exact ⟨0 + 1, _, by omega, by go_num, X4.out, Y4.out, HP.out, HX3.out⟩
        case measure => simp [intOf]; omega
      | succ j =>
        have hj : j < l.length := by omega
        have c0 := (hF j hj).1
        have e0 : lst = l[j].1 := by rw [HLST.out, if_neg (by omega)]; simp [hj]
        rw [← e0] at c0
        have e4 : IntKind.i64.wrap (j : Int) = (j : Int) := IntWalk.i64_in _ (by omega)
        have e5 : (j : Int) + 1 < (l.length : Int) := by omega
        have e5' : (j : Int) < (l.length : Int) := by omega
        have e3 : decide ((0 : Int) < (j : Int) + 1) = true := by rw [decide_eq_true_iff]; omega
        have HX := Lib.hid hx
        clear hx hlst hfk hn e0
        go_wp2_with fail
        refine wp_region_det (fun W => Below wr.heap.size wr W) (by kernel_rfl) (by kernel_rfl) ((Below.refl _ _).drew) ?_
        repeat (first
          | (refine det_step (fun K hK => ?_)
             apply Exists.intro
             refine ⟨Or.inl ⟨rfl, fun W hS => ?_⟩, ?_⟩
             · have hz : Below wr.heap.size wr W := hS; have f0 := cellKept c0 (Y0.out.trans (hz.mono Y0.out.size)); have f1 := cellKept c1 (Y0.out.trans (hz.mono Y0.out.size))
               go_simp
               first
               | exact rfl
               | exact ⟨rfl, hS⟩
               | (refine (CM.out _).mono ?_; rintro e w' ⟨rfl, hb3⟩; exact ⟨rfl, hz.trans (hb3.mono hz.size)⟩)
             go_simp
             refine hK _ ?_
             clear hK K)
          | (refine det_step (fun K hK => ?_); refine det_no' rfl ?_; go_simp; refine hK _ ?_; clear hK K))
        refine det_nil ?_
        intro W9 hS
        replace hS : Below wr.heap.size wr W9 := hS
        have X1 := Lib.hid (HX.out.below hS)
        have Y1 := Lib.hid (Y0.out.trans (hS.mono Y0.out.size))
        clear Y0 HX hS hb c0 CM
        go_wp2_with (first
          | (go_at_call 44; refine (NL.out _ X1.out).mono ?_; rintro e w2 ⟨rfl, hw2, hb2⟩; have X2 := Lib.hid hw2; have hyb := Y1.out.trans (hb2.below (Nat.le_refl _) Y1.out.size); have Y2 := Lib.hid hyb; have d1 := cellKept c1 hyb; clear hw2 hb2 hyb X1 Y1)
          | (go_at_call 46; refine (TA.out _ X2.out).mono ?_; rintro e w3 ⟨rfl, hw3, hb3⟩; have X3 := Lib.hid hw3; have hyb := Y2.out.trans (hb3.below (Nat.le_refl _) Y2.out.size); have Y3 := Lib.hid hyb; have d2 := cellKept c2 hyb; clear hw3 hb3 hyb X2 Y2 TA)
          | (go_at_call 46; refine (TB.out _ X3.out).mono ?_; rintro e w4 ⟨rfl, hw4, hb4⟩; have X4 := Lib.hid hw4; have Y4 := Lib.hid (Y3.out.trans (hb4.below (Nat.le_refl _) Y3.out.size)); clear hw4 hb4 X3 Y3 TB))
        go_roundw
        case rel => exact ⟨j + 1 + 1, _, by omega, by go_num, X4.out, Y4.out, HP.out, HX3.out⟩
        case measure => simp [intOf]; omega
    · obtain rfl : k = l.length := by omega
      rw [List.drop_eq_nil_of_le (Nat.le_refl _), Sp.pbody] at hpa
      subst hpa
      have hx9 : (Sp.pall l).1.length ≤ 1000000000 := by omega
      have DN := Lib.hid (rwdone_calls _ _ _ hx)
      clear hx
      by_cases h0 : (Sp.pall l).2 = 0
      · have hd : Sp.wdone (Sp.pall l) = ((Sp.pall l).1, 0) := if_pos h0
        rw [hd] at DN
        have F := Lib.hid (show Sp.pbytes l = (Sp.sealed ([104, 97, 1] ++ (Sp.pall l).1), 0) from if_neg (by simpa using h0))
        obtain ⟨b, hbb⟩ : ∃ b, b = (Sp.pall l).1 := ⟨_, rfl⟩
        rw [← hbb] at DN F hx9
        have s1 : (strOf b).size = b.length := strOf_size _
        have a1 : (⟨#[104, 97, 1]⟩ : ByteArray) ++ strOf b = strOf ([104, 97, 1] ++ b) := by rw [strOf_append]
        have SL := Lib.hid fun W => rseal_calls (strOf ([104, 97, 1] ++ b)) W (by rw [strOf_size]; simp; omega)
        simp only [strOf_data] at SL
        clear h0 hd hbb PA L1 X3 Y3
        go_wp2_with (first
          | (go_at_call 47; refine DN.out.mono ?_; rintro e w4 ⟨rfl, hb4⟩)
          | (go_at_call 48; refine (SL.out _).mono ?_; rintro e w5 ⟨rfl, hb5⟩))
        go_ret2
        have hb6 := hb.trans (hb4.mono hb.size)
        exact ⟨by rw [F.out]; rfl, hb6.trans (hb5.mono hb6.size)⟩
      · have hd : Sp.wdone (Sp.pall l) = ([], (Sp.pall l).2) := if_neg h0
        rw [hd] at DN
        have F := Lib.hid (show Sp.pbytes l = ([], (Sp.pall l).2) from if_pos h0)
        have b1 : ((Sp.pall l).2 != 0) = true := by simpa using h0
        clear h0 hd PA L1 X3 Y3
        go_wp2_with (go_at_call 47; refine DN.out.mono ?_; rintro e w4 ⟨rfl, hb4⟩)
        go_ret2
        exact ⟨by rw [F.out]; rfl, hb.trans (hb4.mono hb.size)⟩
end Go.Proofs.YtbjdgiocehoaiaaDoor
