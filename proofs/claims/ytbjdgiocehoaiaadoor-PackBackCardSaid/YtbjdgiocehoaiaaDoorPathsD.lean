/- Walks: which of two paths stands ahead, the reference's. -/
import Derived.Test.YtbjdgiocehoaiaaDoorPathsC
import Derived.Test.YtbjdgiocehoaiaaDoorBox
namespace Go.Proofs.YtbjdgiocehoaiaaDoor
open Go.RowKit
attribute [local go_sem] yUpon
theorem bytesLess_list : ∀ (x y : List UInt8), Op.bytesLess x y = decide (Lib.compareBytes x y = -1)
  | [], [] => rfl
  | [], _ :: _ => rfl
  | _ :: _, [] => rfl
  | a :: x, b :: y => by
    unfold Op.bytesLess Lib.compareBytes
    by_cases h1 : a < b
    · simp [h1]
    · by_cases h2 : b < a
      · simp [h1, h2]
        rintro rfl; exact absurd h2 (UInt8.lt_irrefl _)
      · have : a = b := UInt8.le_antisymm (UInt8.not_lt.1 h2) (UInt8.not_lt.1 h1)
        simp [bytesLess_list x y, this]
theorem less_of (a b : ByteArray) : Op.bytesLess a.toList b.toList = decide (Lib.compareBytes a.data.toList b.data.toList = -1) := by rw [toList_data, toList_data]; exact bytesLess_list _ _
theorem same_of (a b : ByteArray) : (a.toList == b.toList) = decide (Lib.compareBytes a.data.toList b.data.toList = 0) := by
  rw [toList_data, toList_data, Bool.eq_iff_iff, beq_iff_eq, decide_eq_true_eq, Sp.cmpB_eq]
theorem split_len_le (s : Sp.Bs) : (Sp.split s).length ≤ s.length + 1 := by
  induction s with
  | nil => simp [Sp.split]
  | cons c r ih =>
    unfold Sp.split
    split
    · simp; omega
    · split <;> simp_all <;> omega
theorem pieces_some (s : ByteArray) (w : World) (hs : s.size < 4294967200) : Calls Tryd.prog 28 #[.string s] w fun e w' =>
    Below w.heap.size w w' ∧ ∃ (g cap : Nat) (L : List ByteArray), e = .returned (.slice (some ⟨g, 0, none⟩) L.length cap) ∧ L.map (·.data.toList) = Sp.split s.data.toList ∧ Strs w' g L ∧ w.heap.size ≤ g ∧ L.length ≤ cap ∧ L.length ≤ 4294967201 :=
  (pieces_calls s w hs).mono (by
    rintro e w1 ⟨hb1, (⟨h0, rfl⟩ | ⟨g1, c1, L, hl0, hlc, rfl, hL, hS1, hg1⟩)⟩
    · exact absurd h0 (Sp.split_ne _)
    · have := split_len_le s.data.toList
      rw [← hL, List.length_map] at this
      exact ⟨hb1, g1, c1, L, rfl, hL, hS1, hg1, hlc, by simp at this; omega⟩)
set_option maxRecDepth 100000 in
set_option maxHeartbeats 2000000 in
theorem rcompare_calls (s t : ByteArray) (w : World) (hs : s.size < 4294967200) (ht : t.size < 4294967200) :
    Calls Tryd.prog 58 #[.string s, .string t] w fun e w' => e = .returned (.int .i64 (Sp.compare s.data.toList t.data.toList)) ∧ Below w.heap.size w w' := by
  have S1 := Lib.hid (pieces_some s w hs)
  have S2 := Lib.hid fun w1 => pieces_some t w1 ht
  clear hs ht
  go_enter Tryd.func58, Tryd.ntmps58
  go_wp2_with (first
    | (go_at_call 28; with_reducible refine S1.out.mono ?_; rintro e w1 ⟨hb1, g1, c1, L, rfl, hL, hS1, hg1, hc1, hn1⟩; have HS1 := Lib.hid hS1; have HL := Lib.hid hL; clear hL hS1 S1)
    | (go_at_call 28; refine (S2.out _).mono ?_; rintro e w2 ⟨hb2, g2, c2, M, rfl, hM, hS2, hg2, hc2, hn2⟩; have HS2 := Lib.hid hS2; have HM := Lib.hid hM; clear hM hS2 S2))
  have hbb : Below w.heap.size w w2 := hb1.trans (hb2.mono hb1.size)
  have HC : ∀ k, (h : k < L.length) → w2.cell? ⟨g1, k, none⟩ = some (.string L[k]) := HS1.out.below hb2
  have CD := Lib.hid (show Sp.compare s.data.toList t.data.toList = Sp.cmpP ((L.map (·.data.toList)).drop 0) ((M.map (·.data.toList)).drop 0) by rw [HL.out, HM.out]; rfl)
  have CS := Lib.hid fun k h1 h2 => Sp.cmpP_step L M k h1 h2
  have CE := Lib.hid fun k (h : k = L.length ∨ k = M.length) => Sp.cmpP_end ((L.map (·.data.toList)).drop k) ((M.map (·.data.toList)).drop k) (by
    rcases h with h | h
    · exact .inl (List.drop_eq_nil_of_le (by simp; omega))
    · exact .inr (List.drop_eq_nil_of_le (by simp; omega)))
  go_loopw [7] (fun v7 wr => ∃ k : Nat, k ≤ L.length ∧ k ≤ M.length ∧ v7 = .int .i64 k ∧ Sp.compare s.data.toList t.data.toList = Sp.cmpP ((L.map (·.data.toList)).drop k) ((M.map (·.data.toList)).drop k) ∧ Below w2.heap.size w2 wr) (fun v7 _ => L.length - (intOf v7).toNat)
  case atStart => exact ⟨0, Nat.zero_le _, Nat.zero_le _, rfl, CD.out, Below.refl _ _⟩
  case round =>
    obtain ⟨k, hk, hk2, rfl, hc, hb⟩ := hrel
    by_cases hlt : k < L.length ∧ k < M.length
    · obtain ⟨hl, hm⟩ := hlt
      have c1 := HC k hl
      have c2 : w2.cell? ⟨g2, k, none⟩ = some (.string M[k]) := HS2.out k hm
      have st := CS.out k hl hm
      have e1 := less_of L[k] M[k]
      have e2 := same_of L[k] M[k]
      have E0 := Lib.hid (Sp.cmpB_eq L[k].data.toList M[k].data.toList)
      have rg := Sp.cmpB_range L[k].data.toList M[k].data.toList
      obtain ⟨x, hx⟩ : ∃ x, x = Lib.compareBytes L[k].data.toList M[k].data.toList := ⟨_, rfl⟩
      rw [← hx] at e1 e2 st rg E0
      clear hx HC
      rcases rg with h | h | h
      · have ne : ¬ L[k].data.toList = M[k].data.toList := fun e => absurd (E0.out.2 e) (by omega)
        rw [if_neg ne] at st
        have HCC := Lib.hid (hc.trans (st.trans h))
        rw [h] at e1 e2
        have e1' : Op.bytesLess L[k].toList M[k].toList = true := e1
        clear e1 e2 ne h hc st
        go_wp2_with fail
        refine wp_region_det (fun W => Below w2.heap.size w2 W) (by kernel_rfl) (by kernel_rfl) hb.drew ?_
        repeat (first
          | (refine det_step (fun K hK => ?_)
             apply Exists.intro
             refine ⟨Or.inl ⟨rfl, fun W hS => ?_⟩, ?_⟩
             · have hz : Below w2.heap.size w2 W := hS; have d1 := cellKept c1 hz; have d2 := cellKept c2 hz
               go_simp
               first
               | exact rfl
               | exact ⟨rfl, hS⟩
               | (fail)
             go_simp
             refine hK _ ?_
             clear hK K)
          | (refine det_step (fun K hK => ?_); refine det_no' rfl ?_; go_simp; refine hK _ ?_; clear hK K))
        refine det_nil ?_
        intro W9 hS
        replace hS : Below w2.heap.size w2 W9 := hS
        go_wp2_with fail
        go_ret
        exact ⟨by rw [HCC.out]; rfl, hbb.trans (hS.mono hbb.size)⟩
      · have eq := E0.out.1 h
        rw [if_pos eq] at st
        have HCC := Lib.hid (hc.trans st)
        rw [h] at e1 e2
        have e1' : Op.bytesLess L[k].toList M[k].toList = false := e1
        have e2' : (L[k].toList == M[k].toList) = true := e2
        clear e1 e2 eq h hc st
        go_wp2_with fail
        refine wp_region_det (fun W => Below w2.heap.size w2 W) (by kernel_rfl) (by kernel_rfl) hb.drew ?_
        repeat (first
          | (refine det_step (fun K hK => ?_)
             apply Exists.intro
             refine ⟨Or.inl ⟨rfl, fun W hS => ?_⟩, ?_⟩
             · have hz : Below w2.heap.size w2 W := hS; have d1 := cellKept c1 hz; have d2 := cellKept c2 hz
               go_simp
               first
               | exact rfl
               | exact ⟨rfl, hS⟩
               | (fail)
             go_simp
             refine hK _ ?_
             clear hK K)
          | (refine det_step (fun K hK => ?_); refine det_no' rfl ?_; go_simp; refine hK _ ?_; clear hK K))
        refine det_nil ?_
        intro W9 hS
        replace hS : Below w2.heap.size w2 W9 := hS
        go_wp2_with fail
        refine wp_region_det (fun W => Below w2.heap.size w2 W) (by kernel_rfl) (by kernel_rfl) hS.drew ?_
        repeat (first
          | (refine det_step (fun K hK => ?_)
             apply Exists.intro
             refine ⟨Or.inl ⟨rfl, fun W hS => ?_⟩, ?_⟩
             · have hz : Below w2.heap.size w2 W := hS; have d1 := cellKept c1 hz; have d2 := cellKept c2 hz
               go_simp
               first
               | exact rfl
               | exact ⟨rfl, hS⟩
               | (fail)
             go_simp
             refine hK _ ?_
             clear hK K)
          | (refine det_step (fun K hK => ?_); refine det_no' rfl ?_; go_simp; refine hK _ ?_; clear hK K))
        refine det_nil ?_
        intro W8 hS8
        replace hS8 : Below w2.heap.size w2 W8 := hS8
        go_wp2_with fail
        go_roundw
        case rel => exact ⟨k + 1, by omega, by omega, by go_num, HCC.out, hS8⟩
        case measure => simp [intOf]; omega
      · have ne : ¬ L[k].data.toList = M[k].data.toList := fun e => absurd (E0.out.2 e) (by omega)
        rw [if_neg ne] at st
        have HCC := Lib.hid (hc.trans (st.trans h))
        rw [h] at e1 e2
        have e1' : Op.bytesLess L[k].toList M[k].toList = false := e1
        have e2' : (L[k].toList == M[k].toList) = false := e2
        clear e1 e2 ne h hc st
        go_wp2_with fail
        refine wp_region_det (fun W => Below w2.heap.size w2 W) (by kernel_rfl) (by kernel_rfl) hb.drew ?_
        repeat (first
          | (refine det_step (fun K hK => ?_)
             apply Exists.intro
             refine ⟨Or.inl ⟨rfl, fun W hS => ?_⟩, ?_⟩
             · have hz : Below w2.heap.size w2 W := hS; have d1 := cellKept c1 hz; have d2 := cellKept c2 hz
               go_simp
               first
               | exact rfl
               | exact ⟨rfl, hS⟩
               | (fail)
             go_simp
             refine hK _ ?_
             clear hK K)
          | (refine det_step (fun K hK => ?_); refine det_no' rfl ?_; go_simp; refine hK _ ?_; clear hK K))
        refine det_nil ?_
        intro W9 hS
        replace hS : Below w2.heap.size w2 W9 := hS
        go_wp2_with fail
        refine wp_region_det (fun W => Below w2.heap.size w2 W) (by kernel_rfl) (by kernel_rfl) hS.drew ?_
        repeat (first
          | (refine det_step (fun K hK => ?_)
             apply Exists.intro
             refine ⟨Or.inl ⟨rfl, fun W hS => ?_⟩, ?_⟩
             · have hz : Below w2.heap.size w2 W := hS; have d1 := cellKept c1 hz; have d2 := cellKept c2 hz
               go_simp
               first
               | exact rfl
               | exact ⟨rfl, hS⟩
               | (fail)
             go_simp
             refine hK _ ?_
             clear hK K)
          | (refine det_step (fun K hK => ?_); refine det_no' rfl ?_; go_simp; refine hK _ ?_; clear hK K))
        refine det_nil ?_
        intro W8 hS8
        replace hS8 : Below w2.heap.size w2 W8 := hS8
        go_wp2_with fail
        go_ret
        exact ⟨by rw [HCC.out]; rfl, hbb.trans (hS8.mono hbb.size)⟩
    · have ce := CE.out k (by omega)
      simp only [List.length_drop, List.length_map] at ce
      have hfin : Below w.heap.size w wr := hbb.trans (hb.mono hbb.size)
      clear HC
      by_cases hl : k < L.length
      · obtain rfl : k = M.length := by omega
        have HCC := Lib.hid (show Sp.compare s.data.toList t.data.toList = 1 by rw [hc, ce]; omega)
        clear hc ce hlt
        go_wp2_with fail
        go_ret
        exact ⟨by rw [HCC.out]; rfl, hfin⟩
      · obtain rfl : k = L.length := by omega
        by_cases hm : L.length < M.length
        · have HCC := Lib.hid (show Sp.compare s.data.toList t.data.toList = -1 by rw [hc, ce]; omega)
          clear hc ce hlt
          go_wp2_with fail
          go_ret
          exact ⟨by rw [HCC.out]; rfl, hfin⟩
        · have HCC := Lib.hid (show Sp.compare s.data.toList t.data.toList = 0 by rw [hc, ce]; omega)
          clear hc ce hlt
          go_wp2_with fail
          go_ret
          exact ⟨by rw [HCC.out]; rfl, hfin⟩
end Go.Proofs.YtbjdgiocehoaiaaDoor
