/- Walks: a tree's digests. Walks: the document's trees: what stands at a path; a name below a directory; what is below one. Walks: the document's word for 'below a directory'. Walks: which of two paths stands ahead, the reference's. Walks: the document's tree with a leaf at a path. -/
import Derived.Test.YtmlfnidckfeebaaGreatDoorP018
namespace Go.Proofs.YtmlfnidckfeebaaGreatDoor
open Go.RowKit Go.Shelf
attribute [local go_sem] yUpon strOf_toList
set_option maxRecDepth 100000 in
set_option maxHeartbeats 4000000 in
theorem troot_calls (o : Option Sp.T) (v : Value) (w : World) (h : TreeAt w v o) (K : KeysAt w 2) :
    Calls Tryz.prog 24 #[v] w fun e w' => e = .returned (digV (Sp.nsum (Sp.nodeT (o.getD .nil)))) ∧ Ext w w' := by
  have RC := Lib.hid fun W (e : Ext w W) => root_calls o v W (h.ext e) (K.ext e)
  obtain ⟨ds, hds⟩ : ∃ ds, ds = (Sp.nsum (Sp.nodeT (o.getD .nil))).map byteV := ⟨_, rfl⟩
  have DL := Lib.hid (show ds.length = 32 by rw [hds, List.length_map, Sp.nsum_len])
  have HD := Lib.hid hds
  have AS := Lib.hid (show ds.toArray.size = 32 by rw [List.size_toArray, hds, List.length_map, Sp.nsum_len])
  have DA := Lib.hid (show ds.toArray.all (·.oneCell') = true by rw [hds]; exact all_oneCell_toArray (bytes_one _))
  have tok1 : True := trivial
  have tok2 : True := trivial
  have tok3 : True := trivial
  clear h K hds
  go_enter Tryz.func24, Tryz.ntmps24
  go_wp2_with (have _t := tok1; ((with_reducible refine at_alloc (t := 36) rfl ?_); refine box_new rfl (cs := zero32) (t := 36) (by first | (go_simp; done) | (go_simp; rfl)) ?_; intro g2 w2 hg2 hx2 hb2; have H2 := Lib.hid hx2; have B2 := Lib.hid (show Ext w w2 from hb2); have GG2 := Lib.hid hg2; clear tok1 _t hx2 hb2 hg2))
  refine (RC.out w2 B2.out).mono ?_
  rintro e w3 ⟨g, rfl, hi, hb3⟩
  have H3 := Lib.hid (H2.out.below hb3)
  have E3 := Lib.hid (B2.out.trans hb3)
  have RNG := Lib.hid (show w3.rangeAt g 4 ds by rw [HD.out]; exact hi.cells.2.1)
  clear hi hb3 RC
  go_wp2_with (first
    | (have _t := tok2; ((with_reducible refine at_load (t := 36) rfl ?_); refine wpList_load_mid rfl _ _ rfl g 4 rfl ds _ RNG.out Tryz.underlying36 rfl (by rw [DL.out]; kernel_rfl) ?_; clear tok2 _t))
    | (have _t := tok3; ((with_reducible refine at_store (t := 36) rfl ?_); refine wpList_store_row rfl _ _ _ rfl g2 ds.toArray rfl rfl 36 _ H3.out (by rw [AS.out]; kernel_rfl) (by rw [AS.out]; rfl) DA.out ?_; clear tok3 _t)))
  refine bodyPost_ret (results_cell_row rfl _ _ g2 36 ds.toArray (0, 0) _ rfl (setRow_heap _ _ _ _ _ _ H3.out) Tryz.underlying36 rfl (by rw [AS.out]; kernel_rfl)) rfl ?_
  exact ⟨by rw [HD.out]; rfl, below_setRow E3.out GG2.out _⟩
end Go.Proofs.YtmlfnidckfeebaaGreatDoor
namespace Go.Proofs.YtmlfnidckfeebaaGreatDoor
open Go.RowKit Go.Shelf
attribute [local go_sem] yUpon strOf_toList
namespace Sp
def down (d n : Bs) : Bs := if d = [] then n else d ++ 47 :: n
end Sp
end Go.Proofs.YtmlfnidckfeebaaGreatDoor
namespace Go.Proofs.YtmlfnidckfeebaaGreatDoor
open Go.RowKit Go.Shelf
attribute [local go_sem] yUpon strOf_toList
namespace Sp
def bad (p d : Bs) : Bool := decide (parts p = []) || (decide (d ≠ []) && decide (parts d = [])) || decide ((parts p).length ≤ (parts d).length)
theorem under_bad (p d : Bs) : under p d = (!bad p d && decide ((parts p).take (parts d).length = parts d)) := by
  have h : decide ((parts d).length < (parts p).length) = !decide ((parts p).length ≤ (parts d).length) := by
    rw [← decide_not]
    congr 1
    simp [Nat.not_le]
  unfold under bad
  simp only [ne_eq, decide_not, h]
  generalize decide (parts p = []) = a1
  generalize decide (d = []) = a2
  generalize decide (parts d = []) = a3
  generalize decide ((parts p).length ≤ (parts d).length) = a4
  cases a1 <;> cases a2 <;> cases a3 <;> cases a4 <;> rfl
end Sp
set_option maxRecDepth 100000 in
set_option maxHeartbeats 4000000 in
theorem under_calls (p d : Sp.Bs) (w : World) (hpl : p.length ≤ 1000000) (hdl : d.length ≤ 1000000) :
    Calls Tryz.prog 25 #[.string (strOf p), .string (strOf d)] w fun e w' => e = .returned (.bool (Sp.under p d)) ∧ Ext w w' := by
  have PP := Lib.hid (show ∀ W, _ from fun W => rparts_calls (strOf p) W (by rw [strOf_size]; omega))
  have PD := Lib.hid (show ∀ W, _ from fun W => rparts_calls (strOf d) W (by rw [strOf_size]; omega))
  have UB := Lib.hid (Sp.under_bad p d)
  have hP4 := Sp.parts_len p
  have hD4 := Sp.parts_len d
  rw [strOf_data] at PP PD
  obtain ⟨P, hP⟩ : ∃ P, P = Sp.parts p := ⟨_, rfl⟩
  obtain ⟨D, hD⟩ : ∃ D, D = Sp.parts d := ⟨_, rfl⟩
  rw [← hP, ← hD] at UB
  rw [← hP] at PP hP4
  rw [← hD] at PD hD4
  obtain ⟨bb, hbb⟩ : ∃ bb, bb = Sp.bad p d := ⟨_, rfl⟩
  rw [← hbb] at UB
  have HBB := Lib.hid (show bb = (decide (P = []) || (decide (d ≠ []) && decide (D = [])) || decide (P.length ≤ D.length)) by rw [hbb, Sp.bad, hP, hD])
  clear hP hD hbb
  go_enter Tryz.func25, Tryz.ntmps25
  go_wp2_with fail
  refine (PP.out w).mono ?_
  intro e w1 ht
  obtain ⟨A1, c1, rfl, _, hN1, hb1⟩ := ht.nams
  have N1 := Lib.hid hN1
  have B1 := Lib.hid hb1
  clear ht hN1 hb1
  go_wp2_with fail
  refine (PD.out w1).mono ?_
  intro e w2 ht
  obtain ⟨A2, c2, rfl, _, hN2, hb2⟩ := ht.nams
  have N2 := Lib.hid hN2
  have N12 := Lib.hid (N1.out.ext hb2)
  have B2 := Lib.hid (B1.out.trans hb2)
  clear ht hN2 hb2 PP PD
  go_upto_region 2 with fail
  go_cut [30] (fun v30 wx => v30 = .bool bb ∧ wx = w2)
  case first =>
    by_cases h1 : P = []
    · have r := Lib.hid (show bb = true by rw [HBB.out]; simp [h1])
      have e1 : P.length = 0 := by rw [h1]; rfl
      have z := Lib.hid h1
      clear h1
      go_wp2
      go_meet
      case rel => exact ⟨by rw [r.out], rfl⟩
    · have e1 : ((P.length : Int) == 0) = false := by rw [beq_eq_false_iff_ne]; intro h; exact h1 (List.eq_nil_of_length_eq_zero (by omega))
      have e2 : ¬ P.length = 0 := fun h => h1 (List.eq_nil_of_length_eq_zero h)
      by_cases h4 : P.length ≤ D.length
      · have f1 : (P.length : Int) ≤ (D.length : Int) := by omega
        have r := Lib.hid (show bb = true by rw [HBB.out]; simp [h4])
        by_cases h2 : d = []
        · subst h2
          have c1 : (([] : List UInt8).isEmpty) = true := rfl
          clear h1
          go_wp2
          go_meet
          case rel => exact ⟨by rw [r.out], rfl⟩
        · have c5 : d.isEmpty = false := by cases d with | nil => exact absurd rfl h2 | cons _ _ => rfl
          have c6 : (d == []) = false := by rw [beq_eq_false_iff_ne]; exact h2
          have e3 : ((D.length : Int) == 0) = false := by rw [beq_eq_false_iff_ne]; omega
          have e4 : ¬ D.length = 0 := by omega
          clear h1
          go_wp2
          go_meet
          case rel => exact ⟨by rw [r.out], rfl⟩
      · have f1 : ¬ (P.length : Int) ≤ (D.length : Int) := by omega
        by_cases h2 : d = []
        · subst h2
          have c1 : (([] : List UInt8).isEmpty) = true := rfl
          have r := Lib.hid (show bb = false by rw [HBB.out]; simp [h4, h1])
          clear h1
          go_wp2
          go_meet
          case rel => exact ⟨by rw [r.out], rfl⟩
        · have c5 : d.isEmpty = false := by cases d with | nil => exact absurd rfl h2 | cons _ _ => rfl
          have c6 : (d == []) = false := by rw [beq_eq_false_iff_ne]; exact h2
          by_cases h3 : D = []
          · have r := Lib.hid (show bb = true by rw [HBB.out]; simp [h2, h3])
            have e3 : ((D.length : Int) == 0) = true := by rw [h3]; rfl
            clear h1 h3
            go_wp2
            go_meet
            case rel => exact ⟨by rw [r.out], rfl⟩
          · have r := Lib.hid (show bb = false by rw [HBB.out]; simp [h4, h1, h3])
            have e3 : ((D.length : Int) == 0) = false := by rw [beq_eq_false_iff_ne]; intro h; exact h3 (List.eq_nil_of_length_eq_zero (by omega))
            have e4 : ¬ D.length = 0 := fun h => h3 (List.eq_nil_of_length_eq_zero h)
            clear h1 h3
            go_wp2
            go_meet
            case rel => exact ⟨by rw [r.out], rfl⟩
  case rest =>
    obtain ⟨rfl, hwc⟩ := hcut
    rw [hwc]
    clear hwc
    cases bb with
    | true =>
      go_wp2
      go_ret
      exact ⟨by rw [UB.out]; rfl, B2.out⟩
    | false =>
      have hlt0 : D.length < P.length := by
        have := HBB.out
        have h := this.symm
        simp only [Bool.or_eq_false_iff, decide_eq_false_iff_not] at h
        omega
      go_wp2
      go_loopw [7] (fun v7 wr => ∃ k : Nat, k ≤ D.length ∧ v7 = .int .i64 k ∧ P.take k = D.take k ∧ Ext w2 wr) (fun v7 _ => D.length - (intOf v7).toNat)
      case atStart => exact ⟨0, Nat.zero_le _, rfl, rfl, Ext.refl _⟩
      case round =>
        obtain ⟨k, hk2, rfl, ht, hb⟩ := hrel
        have HT := Lib.hid ht
        have HB := Lib.hid hb
        clear ht hb
        by_cases hlt : k < D.length
        · obtain ⟨a1, o1, rfl, hn1⟩ := N12.out.at (by omega)
          obtain ⟨a2, o2, rfl, hn2⟩ := N2.out.at (by omega)
          have hkP : k < P.length := by omega
          have x1 := HB.out.cell (hn1 k hkP)
          have x2 := HB.out.cell (hn2 k hlt)
          have TP := Lib.hid (List.take_succ_eq_append_getElem hkP)
          have TD := Lib.hid (List.take_succ_eq_append_getElem hlt)
          obtain ⟨y1, hy1⟩ : ∃ y, y = P[k] := ⟨_, rfl⟩
          obtain ⟨y2, hy2⟩ : ∃ y, y = D[k] := ⟨_, rfl⟩
          rw [← hy1] at x1 TP
          rw [← hy2] at x2 TD
          have X1 := Lib.hid (show wr.drew.cell? ⟨a1, o1 + k, none⟩ = some (.string (strOf y1)) from x1)
          have X2 := Lib.hid (show wr.drew.cell? ⟨a2, o2 + k, none⟩ = some (.string (strOf y2)) from x2)
          have b1 : (k : Int) < (D.length : Int) := by omega
          have b2 : (k : Int) < (P.length : Int) := by omega
          clear hn1 hn2 hy1 hy2 x1 x2
          by_cases hy : y1 = y2
          · have e1 : (y1 == y2) = true := by rw [hy]; exact beq_self_eq_true _
            have HY := Lib.hid hy
            clear hy
            go_wp2_with fail
            refine wp_region_det (fun W => W = wr.drew) (by kernel_rfl) (by kernel_rfl) rfl ?_
            repeat (first
              | (refine det_step (fun K hK => ?_)
                 apply Exists.intro
                 refine ⟨Or.inl ⟨rfl, fun W hS => ?_⟩, ?_⟩
                 · have hz : W = wr.drew := hS; subst hz; have x1 := X1.out; have x2 := X2.out
                   go_simp
                   first
                   | exact rfl
                   | exact ⟨rfl, hS⟩
                   | (fail)
                 go_simp
                 refine hK _ ?_
                 clear hK K)
              | (refine det_step (fun K hK => ?_); refine det_no' rfl ?_; go_simp; refine hK _ ?_; clear hK K))
            refine det_nil ?_
            rintro W rfl
            go_wp2
            refine ⟨⟨k + 1, by omega, by go_num, by rw [TP.out, TD.out, HT.out, HY.out], HB.out.drew⟩, by simp [intOf]; omega⟩
          · have e1 : (y1 == y2) = false := by rw [beq_eq_false_iff_ne]; exact hy
            have HY := Lib.hid hy
            clear hy
            go_wp2_with fail
            refine wp_region_det (fun W => W = wr.drew) (by kernel_rfl) (by kernel_rfl) rfl ?_
            repeat (first
              | (refine det_step (fun K hK => ?_)
                 apply Exists.intro
                 refine ⟨Or.inl ⟨rfl, fun W hS => ?_⟩, ?_⟩
                 · have hz : W = wr.drew := hS; subst hz; have x1 := X1.out; have x2 := X2.out
                   go_simp
                   first
                   | exact rfl
                   | exact ⟨rfl, hS⟩
                   | (fail)
                 go_simp
                 refine hK _ ?_
                 clear hK K)
              | (refine det_step (fun K hK => ?_); refine det_no' rfl ?_; go_simp; refine hK _ ?_; clear hK K))
            refine det_nil ?_
            rintro W rfl
            go_wp2
            go_ret
            refine ⟨?_, B2.out.trans HB.out.drew⟩
            rw [UB.out]
            have hne : ¬ P.take D.length = D := by
              intro h
              have h2 := congrArg (List.take (k + 1)) h
              rw [List.take_take, Nat.min_eq_left (by omega), TP.out, TD.out] at h2
              have h3 := List.append_inj_right' h2 rfl
              exact HY.out (by injection h3)
            rw [decide_eq_false hne]; rfl
        · obtain rfl : k = D.length := by omega
          have HT2 := Lib.hid (show P.take D.length = D by rw [HT.out, List.take_length])
          go_wp2
          go_ret
          refine ⟨?_, B2.out.trans HB.out⟩
          rw [UB.out, decide_eq_true HT2.out]; rfl
end Go.Proofs.YtmlfnidckfeebaaGreatDoor
namespace Go.Proofs.YtmlfnidckfeebaaGreatDoor
open Go.RowKit
attribute [local go_sem] yUpon
theorem bytesLess_list : ∀ (x y : List UInt8), Op.bytesLess x y = decide (Lib.compareBytes x y = -1)
  | [], [] => rfl
  | [], _ :: _ => rfl
  | _ :: _, [] => rfl
  | a :: x, b :: y => by
    unfold Op.bytesLess Lib.compareBytes
    by_cases h1 : a < b
    · simp [h1]
    · by_cases h2 : b < a
      · simp [h1, h2]
        rintro rfl; exact absurd h2 (UInt8.lt_irrefl _)
      · have : a = b := UInt8.le_antisymm (UInt8.not_lt.1 h2) (UInt8.not_lt.1 h1)
        simp [bytesLess_list x y, this]
theorem less_of (a b : ByteArray) : Op.bytesLess a.toList b.toList = decide (Lib.compareBytes a.data.toList b.data.toList = -1) := by rw [toList_data, toList_data]; exact bytesLess_list _ _
theorem same_of (a b : ByteArray) : (a.toList == b.toList) = decide (Lib.compareBytes a.data.toList b.data.toList = 0) := by
  rw [toList_data, toList_data, Bool.eq_iff_iff, beq_iff_eq, decide_eq_true_eq, Sp.cmpB_eq]
theorem split_len_le (s : Sp.Bs) : (Sp.split s).length ≤ s.length + 1 := by
  induction s with
  | nil => simp [Sp.split]
  | cons c r ih =>
    unfold Sp.split
    split
    · simp; omega
    · split <;> simp_all <;> omega
theorem pieces_some (s : ByteArray) (w : World) (hs : s.size < 4294967200) : Calls Tryz.prog 87 #[.string s] w fun e w' =>
    Below w.heap.size w w' ∧ ∃ (g cap : Nat) (L : List ByteArray), e = .returned (.slice (some ⟨g, 0, none⟩) L.length cap) ∧ L.map (·.data.toList) = Sp.split s.data.toList ∧ Strs w' g L ∧ w.heap.size ≤ g ∧ L.length ≤ cap ∧ L.length ≤ 4294967201 :=
  (pieces_calls s w hs).mono (by
    rintro e w1 ⟨hb1, (⟨h0, rfl⟩ | ⟨g1, c1, L, hl0, hlc, rfl, hL, hS1, hg1⟩)⟩
    · exact absurd h0 (Sp.split_ne _)
    · have := split_len_le s.data.toList
      rw [← hL, List.length_map] at this
      exact ⟨hb1, g1, c1, L, rfl, hL, hS1, hg1, hlc, by simp at this; omega⟩)
set_option maxRecDepth 100000 in
set_option maxHeartbeats 2000000 in
theorem rcompare_calls (s t : ByteArray) (w : World) (hs : s.size < 4294967200) (ht : t.size < 4294967200) :
    Calls Tryz.prog 30 #[.string s, .string t] w fun e w' => e = .returned (.int .i64 (Sp.compare s.data.toList t.data.toList)) ∧ Below w.heap.size w w' := by
  have S1 := Lib.hid (pieces_some s w hs)
  have S2 := Lib.hid fun w1 => pieces_some t w1 ht
  clear hs ht
  go_enter Tryz.func30, Tryz.ntmps30
  go_wp2_with (first
    | (go_at_call 87; with_reducible refine S1.out.mono ?_; rintro e w1 ⟨hb1, g1, c1, L, rfl, hL, hS1, hg1, hc1, hn1⟩; have HS1 := Lib.hid hS1; have HL := Lib.hid hL; clear hL hS1 S1)
    | (go_at_call 87; refine (S2.out _).mono ?_; rintro e w2 ⟨hb2, g2, c2, M, rfl, hM, hS2, hg2, hc2, hn2⟩; have HS2 := Lib.hid hS2; have HM := Lib.hid hM; clear hM hS2 S2))
  have hbb : Below w.heap.size w w2 := hb1.trans (hb2.mono hb1.size)
  have HC : ∀ k, (h : k < L.length) → w2.cell? ⟨g1, k, none⟩ = some (.string L[k]) := HS1.out.below hb2
  have CD := Lib.hid (show Sp.compare s.data.toList t.data.toList = Sp.cmpP ((L.map (·.data.toList)).drop 0) ((M.map (·.data.toList)).drop 0) by rw [HL.out, HM.out]; rfl)
  have CS := Lib.hid fun k h1 h2 => Sp.cmpP_step L M k h1 h2
  have CE := Lib.hid fun k (h : k = L.length ∨ k = M.length) => Sp.cmpP_end ((L.map (·.data.toList)).drop k) ((M.map (·.data.toList)).drop k) (by
    rcases h with h | h
    · exact .inl (List.drop_eq_nil_of_le (by simp; omega))
    · exact .inr (List.drop_eq_nil_of_le (by simp; omega)))
  go_loopw [7] (fun v7 wr => ∃ k : Nat, k ≤ L.length ∧ k ≤ M.length ∧ v7 = .int .i64 k ∧ Sp.compare s.data.toList t.data.toList = Sp.cmpP ((L.map (·.data.toList)).drop k) ((M.map (·.data.toList)).drop k) ∧ Below w2.heap.size w2 wr) (fun v7 _ => L.length - (intOf v7).toNat)
  case atStart => exact ⟨0, Nat.zero_le _, Nat.zero_le _, rfl, CD.out, Below.refl _ _⟩
  case round =>
    obtain ⟨k, hk, hk2, rfl, hc, hb⟩ := hrel
    by_cases hlt : k < L.length ∧ k < M.length
    · obtain ⟨hl, hm⟩ := hlt
      have c1 := HC k hl
      have c2 : w2.cell? ⟨g2, k, none⟩ = some (.string M[k]) := HS2.out k hm
      have st := CS.out k hl hm
      have e1 := less_of L[k] M[k]
      have e2 := same_of L[k] M[k]
      have E0 := Lib.hid (Sp.cmpB_eq L[k].data.toList M[k].data.toList)
      have rg := Sp.cmpB_range L[k].data.toList M[k].data.toList
      obtain ⟨x, hx⟩ : ∃ x, x = Lib.compareBytes L[k].data.toList M[k].data.toList := ⟨_, rfl⟩
      rw [← hx] at e1 e2 st rg E0
      clear hx HC
      rcases rg with h | h | h
      · have ne : ¬ L[k].data.toList = M[k].data.toList := fun e => absurd (E0.out.2 e) (by omega)
        rw [if_neg ne] at st
        have HCC := Lib.hid (hc.trans (st.trans h))
        rw [h] at e1 e2
        have e1' : Op.bytesLess L[k].toList M[k].toList = true := e1
        clear e1 e2 ne h hc st
        go_wp2_with fail
        refine wp_region_det (fun W => Below w2.heap.size w2 W) (by kernel_rfl) (by kernel_rfl) hb.drew ?_
        repeat (first
          | (refine det_step (fun K hK => ?_)
             apply Exists.intro
             refine ⟨Or.inl ⟨rfl, fun W hS => ?_⟩, ?_⟩
             · have hz : Below w2.heap.size w2 W := hS; have d1 := cellKept c1 hz; have d2 := cellKept c2 hz
               go_simp
               first
               | exact rfl
               | exact ⟨rfl, hS⟩
               | (fail)
             go_simp
             refine hK _ ?_
             clear hK K)
          | (refine det_step (fun K hK => ?_); refine det_no' rfl ?_; go_simp; refine hK _ ?_; clear hK K))
        refine det_nil ?_
        intro W9 hS
        replace hS : Below w2.heap.size w2 W9 := hS
        go_wp2_with fail
        go_ret
        exact ⟨by rw [HCC.out]; rfl, hbb.trans (hS.mono hbb.size)⟩
      · have eq := E0.out.1 h
        rw [if_pos eq] at st
        have HCC := Lib.hid (hc.trans st)
        rw [h] at e1 e2
        have e1' : Op.bytesLess L[k].toList M[k].toList = false := e1
        have e2' : (L[k].toList == M[k].toList) = true := e2
        clear e1 e2 eq h hc st
        go_wp2_with fail
        refine wp_region_det (fun W => Below w2.heap.size w2 W) (by kernel_rfl) (by kernel_rfl) hb.drew ?_
        repeat (first
          | (refine det_step (fun K hK => ?_)
             apply Exists.intro
             refine ⟨Or.inl ⟨rfl, fun W hS => ?_⟩, ?_⟩
             · have hz : Below w2.heap.size w2 W := hS; have d1 := cellKept c1 hz; have d2 := cellKept c2 hz
               go_simp
               first
               | exact rfl
               | exact ⟨rfl, hS⟩
               | (fail)
             go_simp
             refine hK _ ?_
             clear hK K)
          | (refine det_step (fun K hK => ?_); refine det_no' rfl ?_; go_simp; refine hK _ ?_; clear hK K))
        refine det_nil ?_
        intro W9 hS
        replace hS : Below w2.heap.size w2 W9 := hS
        go_wp2_with fail
        refine wp_region_det (fun W => Below w2.heap.size w2 W) (by kernel_rfl) (by kernel_rfl) hS.drew ?_
        repeat (first
          | (refine det_step (fun K hK => ?_)
             apply Exists.intro
             refine ⟨Or.inl ⟨rfl, fun W hS => ?_⟩, ?_⟩
             · have hz : Below w2.heap.size w2 W := hS; have d1 := cellKept c1 hz; have d2 := cellKept c2 hz
               go_simp
               first
               | exact rfl
               | exact ⟨rfl, hS⟩
               | (fail)
             go_simp
             refine hK _ ?_
             clear hK K)
          | (refine det_step (fun K hK => ?_); refine det_no' rfl ?_; go_simp; refine hK _ ?_; clear hK K))
        refine det_nil ?_
        intro W8 hS8
        replace hS8 : Below w2.heap.size w2 W8 := hS8
        go_wp2_with fail
        go_roundw
        case rel => exact ⟨k + 1, by omega, by omega, by go_num, HCC.out, hS8⟩
        case measure => simp [intOf]; omega
      · have ne : ¬ L[k].data.toList = M[k].data.toList := fun e => absurd (E0.out.2 e) (by omega)
        rw [if_neg ne] at st
        have HCC := Lib.hid (hc.trans (st.trans h))
        rw [h] at e1 e2
        have e1' : Op.bytesLess L[k].toList M[k].toList = false := e1
        have e2' : (L[k].toList == M[k].toList) = false := e2
        clear e1 e2 ne h hc st
        go_wp2_with fail
        refine wp_region_det (fun W => Below w2.heap.size w2 W) (by kernel_rfl) (by kernel_rfl) hb.drew ?_
        repeat (first
          | (refine det_step (fun K hK => ?_)
             apply Exists.intro
             refine ⟨Or.inl ⟨rfl, fun W hS => ?_⟩, ?_⟩
             · have hz : Below w2.heap.size w2 W := hS; have d1 := cellKept c1 hz; have d2 := cellKept c2 hz
               go_simp
               first
               | exact rfl
               | exact ⟨rfl, hS⟩
               | (fail)
             go_simp
             refine hK _ ?_
             clear hK K)
          | (refine det_step (fun K hK => ?_); refine det_no' rfl ?_; go_simp; refine hK _ ?_; clear hK K))
        refine det_nil ?_
        intro W9 hS
        replace hS : Below w2.heap.size w2 W9 := hS
        go_wp2_with fail
        refine wp_region_det (fun W => Below w2.heap.size w2 W) (by kernel_rfl) (by kernel_rfl) hS.drew ?_
        repeat (first
          | (refine det_step (fun K hK => ?_)
             apply Exists.intro
             refine ⟨Or.inl ⟨rfl, fun W hS => ?_⟩, ?_⟩
             · have hz : Below w2.heap.size w2 W := hS; have d1 := cellKept c1 hz; have d2 := cellKept c2 hz
               go_simp
               first
               | exact rfl
               | exact ⟨rfl, hS⟩
               | (fail)
             go_simp
             refine hK _ ?_
             clear hK K)
          | (refine det_step (fun K hK => ?_); refine det_no' rfl ?_; go_simp; refine hK _ ?_; clear hK K))
        refine det_nil ?_
        intro W8 hS8
        replace hS8 : Below w2.heap.size w2 W8 := hS8
        go_wp2_with fail
        go_ret
        exact ⟨by rw [HCC.out]; rfl, hbb.trans (hS8.mono hbb.size)⟩
    · have ce := CE.out k (by omega)
      simp only [List.length_drop, List.length_map] at ce
      have hfin : Below w.heap.size w wr := hbb.trans (hb.mono hbb.size)
      clear HC
      by_cases hl : k < L.length
      · obtain rfl : k = M.length := by omega
        have HCC := Lib.hid (show Sp.compare s.data.toList t.data.toList = 1 by rw [hc, ce]; omega)
        clear hc ce hlt
        go_wp2_with fail
        go_ret
        exact ⟨by rw [HCC.out]; rfl, hfin⟩
      · obtain rfl : k = L.length := by omega
        by_cases hm : L.length < M.length
        · have HCC := Lib.hid (show Sp.compare s.data.toList t.data.toList = -1 by rw [hc, ce]; omega)
          clear hc ce hlt
          go_wp2_with fail
          go_ret
          exact ⟨by rw [HCC.out]; rfl, hfin⟩
        · have HCC := Lib.hid (show Sp.compare s.data.toList t.data.toList = 0 by rw [hc, ce]; omega)
          clear hc ce hlt
          go_wp2_with fail
          go_ret
          exact ⟨by rw [HCC.out]; rfl, hfin⟩
end Go.Proofs.YtmlfnidckfeebaaGreatDoor
namespace Go.Proofs.YtmlfnidckfeebaaGreatDoor
open Go.RowKit Go.Shelf
attribute [local go_sem] yUpon strOf_toList
theorem appEnt : AppStat Tryz.prog 22 43 2 40 := by
  refine ⟨Tryz.underlying22, by decide, by decide, ?_⟩
  obtain ⟨i0, hi, hz0, hz1, hz2⟩ := info_parts (show (Tryz.prog.info? 43).map (fun i => (i.zero, i.size, i.bytes)) = some (some (.agg #[.string ⟨#[]⟩, .slice none 0 0]), 2, 40) by kernel_rfl)
  exact ⟨i0, _, hi, hz0, hz1, hz2, rfl⟩
theorem entsC_snoc (m : List (Option Addr × Nat × Sp.DE)) (x : Option Addr × Nat × Sp.DE) : entsC (m ++ [x]) = entsC m ++ entC x := by
  induction m with
  | nil => simp [entsC]
  | cons y r ih => rw [List.cons_append, entsC, ih, entsC, List.append_assoc]
/-- Entries that are being gathered; their versions were there before. -/
def OutAt (w wr : World) (v : Value) (out : List Sp.DE) : Prop := ∃ m : List (Option Addr × Nat × Sp.DE), m.map (·.2.2) = out ∧ wr.ownsRow w.heap.size 43 2 v out.length (entsC m) ∧ ∀ x ∈ m, Vers w x.1 x.2.2.2
theorem OutAt.ext {w wr w' : World} {v : Value} {out : List Sp.DE} (h : OutAt w wr v out) (e : Ext wr w') : OutAt w w' v out := by
  obtain ⟨m, h1, h2, h3⟩ := h
  exact ⟨m, h1, own_ext h2 e, h3⟩
theorem OutAt.ents {w wr : World} {v : Value} {out : List Sp.DE} (h : OutAt w wr v out) (e : Ext w wr) : ∃ B c, v = .slice B out.length c ∧ EntsAt wr B out := by
  obtain ⟨m, h1, h2, h3⟩ := h
  obtain ⟨B, c, rfl, hc⟩ := own_read h2
  exact ⟨B, c, rfl, m, h1, hc, fun x hx => (h3 x hx).ext e⟩
namespace Sp
def rsetS (l : List DE) (p : Bs) (vs : List Ver) : List DE × Int := if check p ≠ 0 then ([], check p) else if leaf vs ≠ 0 then ([], leaf vs) else if 128 < (rset l p vs).length then ([], 4) else (rset l p vs, 0)
theorem rgo_len (p : Bs) (vs : List Ver) : ∀ (l : List DE) (b : Bool), (rgo p vs b l).length ≤ 2 * l.length + 1
  | [], b => by rw [rgo]; split <;> simp
  | e :: r, b => by
    have := rgo_len p vs r (b || decide (compare p e.1 ≤ 0))
    rw [rgo, List.length_append, List.length_append]
    split <;> split <;> simp <;> omega
end Sp
set_option maxRecDepth 100000 in
set_option maxHeartbeats 8000000 in
theorem rset_calls (l : List Sp.DE) (A : Option Addr) (cap : Nat) (p : Sp.Bs) (vs : List Sp.Ver) (Al : Option Addr) (cl : Nat) (w : World) (h : EntsAt w A l) (hl : l.length ≤ 1000) (hpl : ∀ e ∈ l, e.1.length ≤ 1000000) (hp : p.length ≤ 1000000) (hV : Vers w Al vs) :
    Calls Tryz.prog 72 #[.slice A l.length cap, .string (strOf p), .slice Al vs.length cl] w fun e w' => ∃ B c, e = .returned (.tuple #[.slice B (Sp.rsetS l p vs).1.length c, .int .i64 (Sp.rsetS l p vs).2]) ∧ EntsAt w' B (Sp.rsetS l p vs).1 ∧ Ext w w' := by
  have HH := Lib.hid h
  have HPL := Lib.hid hpl
  have HV := Lib.hid hV
  have CC := Lib.hid (rcheck_calls (strOf p) w (by rw [strOf_size]; omega))
  rw [strOf_data] at CC
  have NE := Lib.hid (show ∀ W, EntsAt W none [] from fun W => ⟨[], rfl, Cells.nil _ _, fun x h => by cases h⟩)
  clear h hpl hV
  go_enter Tryz.func72, Tryz.ntmps72
  go_wp2_with fail
  refine CC.out.mono ?_
  rintro e w1 ⟨rfl, hb1⟩
  have B1 := Lib.hid (show Ext w w1 from hb1)
  clear hb1 CC
  by_cases hc : Sp.check p = 0
  · rw [hc]
    have HC := Lib.hid hc
    clear hc
    go_wp2_with fail
    refine (rleaf_calls vs Al cl w1 (HV.out.ext B1.out)).mono ?_
    rintro e w2 ⟨rfl, hb2⟩
    have B2 := Lib.hid (B1.out.trans hb2)
    clear hb2
    by_cases hlf : Sp.leaf vs = 0
    · rw [hlf]
      have HLF := Lib.hid hlf
      have SS := Lib.hid (show Sp.rsetS l p vs = if 128 < (Sp.rset l p vs).length then ([], 4) else (Sp.rset l p vs, 0) by unfold Sp.rsetS; rw [if_neg (by simpa using HC.out), if_neg (by simpa using HLF.out)])
      obtain ⟨b0, hb0⟩ : ∃ b0 : Bool, ((vs.length : Int) == 0) = b0 := ⟨_, rfl⟩
      have B0 := Lib.hid (show b0 = decide (vs = []) by rw [← hb0]; cases vs with | nil => rfl | cons a r => rfl)
      obtain ⟨R, hR⟩ : ∃ R, R = Sp.rset l p vs := ⟨_, rfl⟩
      rw [← hR] at SS
      have RR := Lib.hid (show Sp.rgo p vs b0 l = R by rw [hR, Sp.rset, B0.out])
      have RLEN := Lib.hid (show R.length ≤ 2001 by rw [hR]; exact Nat.le_trans (Sp.rgo_len p vs l _) (by omega))
      clear hlf hR
      go_wp2
      go_loopw [9, 10, 11] (fun v9 v10 v11 wr => ∃ (k : Nat) (out : List Sp.DE) (v : Value) (b : Bool), k ≤ l.length ∧ v = v9 ∧ v10 = .bool b ∧ v11 = .int .i64 k ∧ OutAt w wr v out ∧ out ++ Sp.rgo p vs b (l.drop k) = R ∧ Ext w wr) (fun _ _ v11 _ => l.length - (intOf v11).toNat)
      case atStart => exact ⟨0, [], _, b0, Nat.zero_le _, rfl, rfl, rfl, ⟨[], rfl, World.ownsRow_nil _ _ _ _, fun x h => by cases h⟩, RR.out, B2.out⟩
      case round =>
        obtain ⟨k, out, v, b, hk2, rfl, rfl, rfl, ho, hr, hb⟩ := hrel
        have HO := Lib.hid ho
        have HB := Lib.hid hb
        have OLN := Lib.hid (show out.length ≤ 2001 by have := congrArg List.length hr; rw [List.length_append] at this; have := RLEN.out; omega)
        clear ho hb
        by_cases hlt : k < l.length
        · obtain ⟨eb, eo, rfl, he⟩ := HH.out.at (by omega)
          obtain ⟨Av, cv, c0, c1, hv⟩ := he k hlt
          obtain ⟨x, hx⟩ : ∃ x, x = l[k] := ⟨_, rfl⟩
          have XL := Lib.hid (show x.1.length ≤ 1000000 by rw [hx]; exact HPL.out _ (List.getElem_mem hlt))
          obtain ⟨le, hle⟩ : ∃ le : Bool, le = decide (Sp.compare p x.1 ≤ 0) := ⟨_, rfl⟩
          have RS := Lib.hid (show out ++ ((if b = false ∧ le = true then [(p, vs)] else []) ++ ((if x.1 = p then [] else [x]) ++ Sp.rgo p vs (b || le) (l.drop (k + 1)))) = R by
            rw [← hr, List.drop_eq_getElem_cons hlt, ← hx, Sp.rgo, hle]
            simp)
          rw [← hx] at c0 c1 hv
          have C0 := Lib.hid c0
          have C1 := Lib.hid c1
          have HVX := Lib.hid hv
          have HLE := Lib.hid hle
          have b1 : (k : Int) < (l.length : Int) := by omega
          have x0 := HB.out.cell c0
          clear hr he hx hv hle c0 c1
          go_upto_region 11 with fail
          go_cut [10, 41] (fun v10 v41 wx => v10 = .bool b ∧ v41 = .bool (!b && le) ∧ Ext wr wx)
          case first =>
            cases b with
            | true =>
              go_wp2
              go_meet
              case rel => exact ⟨rfl, rfl, Ext.refl _⟩
            | false =>
              go_wp2_with fail
              refine (rcompare_calls (strOf p) (strOf x.1) wr (by rw [strOf_size]; omega) (by rw [strOf_size]; have := XL.out; omega)).mono ?_
              rintro e w3 ⟨rfl, hb3⟩
              rw [strOf_data, strOf_data]
              have B3 := Lib.hid (show Ext wr w3 from hb3)
              obtain ⟨cc, hcc⟩ : ∃ cc, cc = Sp.compare p x.1 := ⟨_, rfl⟩
              rw [← hcc]
              have HCC := Lib.hid (show le = decide (cc ≤ 0) by rw [hcc]; exact HLE.out)
              clear hb3 hcc
              by_cases hc0 : cc ≤ 0
              · have r := Lib.hid (show le = true by rw [HCC.out]; exact decide_eq_true hc0)
                go_wp2
                go_meet
                case rel => exact ⟨rfl, by rw [r.out]; first | rfl | (simp; omega), B3.out⟩
              · have r := Lib.hid (show le = false by rw [HCC.out]; exact decide_eq_false hc0)
                go_wp2
                go_meet
                case rel => exact ⟨rfl, by rw [r.out]; first | rfl | (simp; omega), B3.out⟩
          case rest =>
            obtain ⟨rfl, rfl, hb3⟩ := hcut
            obtain ⟨w3, hw3⟩ : ∃ w3, w3 = wc := ⟨_, rfl⟩
            rw [← hw3] at hb3 ⊢
            have B3 := Lib.hid (show Ext wr w3 from hb3)
            have E3 := Lib.hid (HB.out.trans hb3)
            have O3 := Lib.hid (HO.out.ext hb3)
            obtain ⟨out1, ho1⟩ : ∃ out1, out1 = out ++ (if b = false ∧ le = true then [(p, vs)] else []) := ⟨_, rfl⟩
            have RS1 := Lib.hid (show out1 ++ ((if x.1 = p then [] else [x]) ++ Sp.rgo p vs (b || le) (l.drop (k + 1))) = R by rw [ho1, List.append_assoc]; exact RS.out)
            have HO1 := Lib.hid ho1
            obtain ⟨ins, hins⟩ : ∃ ins, ins = (!b && le) := ⟨_, rfl⟩
            rw [← hins]
            have HINS := Lib.hid hins
            clear hb3 hw3 ho1 hins
            go_upto_if 41 with fail
            go_cut [9, 10, 41] (fun v9 v10 _ wy => ∃ v1, v1 = v9 ∧ v10 = .bool (b || le) ∧ OutAt w wy v1 out1 ∧ Ext w wy)
            case first =>
              cases ins with
              | true =>
                have hbl := Lib.hid (show b = false ∧ le = true by have := HINS.out; revert this; cases b <;> cases le <;> simp)
                obtain ⟨m, hm1, hm2, hm3⟩ := O3.out
                have M1 := Lib.hid hm1
                have M3 := Lib.hid hm3
                have M2 := Lib.hid hm2
                clear hm1 hm2 hm3
                go_wp2_with (at_builtin; refine app_new appEnt rfl _ _ rfl w.heap.size _ out.length _ rfl M2.out #[.string (strOf p), .slice Al vs.length cl] 43 1 rfl rfl (by intro u hu; simp at hu; rcases hu with rfl | rfl <;> rfl) (by decide) (by have := OLN.out; omega) E3.out.size ?_; intro g4 cap4 w4 hown4 hgr4 hb4 hbg4; have O4 := Lib.hid hown4; have B4 := Lib.hid (Below.trans E3.out hb4); clear hown4 hgr4 hb4 hbg4)
                go_meet
                case rel =>
                  refine ⟨_, rfl, by rw [hbl.out.1, hbl.out.2]; rfl, ⟨m ++ [(Al, cl, (p, vs))], by rw [HO1.out, if_pos hbl.out, List.map_append, M1.out]; rfl, ?_, fun y hy => ?_⟩, B4.out⟩
                  · rw [HO1.out, if_pos hbl.out, List.length_append, entsC_snoc]
                    exact O4.out
                  · rcases List.mem_append.1 hy with hy | hy
                    · exact M3.out y hy
                    · rw [List.mem_singleton.1 hy]; exact HV.out
              | false =>
                have hbl := Lib.hid (show ¬ (b = false ∧ le = true) ∧ (b || le) = b by have := HINS.out; revert this; cases b <;> cases le <;> simp)
                go_wp2
                go_meet
                case rel => exact ⟨_, rfl, by rw [hbl.out.2], by rw [HO1.out, if_neg hbl.out.1, List.append_nil]; exact O3.out, E3.out⟩
            case rest =>
              obtain ⟨v1, rfl, rfl, ho1, he1⟩ := hcut
              obtain ⟨wy, hwy⟩ : ∃ wy, wy = wc := ⟨_, rfl⟩
              rw [← hwy] at ho1 he1 ⊢
              have OY := Lib.hid ho1
              have EY := Lib.hid he1
              have y0 := he1.cell C0.out
              have y1 := he1.cell C1.out
              obtain ⟨b2, hb2⟩ : ∃ b2, b2 = (b || le) := ⟨_, rfl⟩
              rw [← hb2] at RS1 ⊢
              have O1L := Lib.hid (show out1.length ≤ 2001 by have := congrArg List.length RS1.out; rw [List.length_append] at this; have := RLEN.out; omega)
              clear ho1 he1 hwy hb2
              by_cases hxp : x.1 = p
              · have e1 : (x.1 == p) = true := by rw [hxp]; exact beq_self_eq_true _
                have RS2 := Lib.hid (show out1 ++ Sp.rgo p vs b2 (l.drop (k + 1)) = R by have := RS1.out; rw [if_pos hxp, List.nil_append] at this; exact this)
                have HXP := Lib.hid hxp
                clear hxp
                go_wp2
                go_roundw
                case rel => exact ⟨k + 1, out1, _, b2, by omega, rfl, rfl, by go_num, OY.out, RS2.out, EY.out⟩
                case measure => simp [intOf]; omega
              · have e1 : (x.1 == p) = false := by rw [beq_eq_false_iff_ne]; exact hxp
                have RS2 := Lib.hid (show (out1 ++ [x]) ++ Sp.rgo p vs b2 (l.drop (k + 1)) = R by have := RS1.out; rw [if_neg hxp] at this; rw [List.append_assoc]; exact this)
                obtain ⟨m, hm1, hm2, hm3⟩ := OY.out
                have M1 := Lib.hid hm1
                have M3 := Lib.hid hm3
                have M2 := Lib.hid hm2
                clear hm1 hm2 hm3 hxp
                go_wp2_with (at_builtin; refine app_new appEnt rfl _ _ rfl w.heap.size _ out1.length _ rfl M2.out #[.string (strOf x.1), .slice Av x.2.length cv] 43 1 rfl rfl (by intro u hu; simp at hu; rcases hu with rfl | rfl <;> rfl) (by decide) (by have := O1L.out; omega) EY.out.size ?_; intro g4 cap4 w4 hown4 hgr4 hb4 hbg4; have O4 := Lib.hid hown4; have B4 := Lib.hid (Below.trans EY.out hb4); clear hown4 hgr4 hb4 hbg4)
                go_roundw
                case rel =>
                  refine ⟨k + 1, out1 ++ [x], _, b2, by omega, rfl, rfl, by go_num, ⟨m ++ [(Av, cv, x)], by rw [List.map_append, M1.out]; rfl, ?_, fun y hy => ?_⟩, RS2.out, B4.out⟩
                  · rw [List.length_append, entsC_snoc]
                    exact O4.out
                  · rcases List.mem_append.1 hy with hy | hy
                    · exact M3.out y hy
                    · rw [List.mem_singleton.1 hy]; exact HVX.out
                case measure => simp [intOf]; omega
        · obtain rfl : k = l.length := by omega
          rw [List.drop_length] at hr
          have HR := Lib.hid hr
          clear hr
          go_upto_if 63 with fail
          go_cut [9, 10, 62, 63] (fun v9 _ _ _ wx => ∃ v1, v1 = v9 ∧ OutAt w wx v1 R ∧ Ext w wx)
          case first =>
            cases b with
            | true =>
              go_wp2
              go_meet
              case rel => exact ⟨v, rfl, by have := HR.out; rw [Sp.rgo, if_pos rfl, List.append_nil] at this; rw [← this]; exact HO.out, HB.out⟩
            | false =>
              have HR2 := Lib.hid (show out ++ [(p, vs)] = R by have := HR.out; rw [Sp.rgo, if_neg (by decide)] at this; exact this)
              obtain ⟨m, hm1, hm2, hm3⟩ := HO.out
              have M1 := Lib.hid hm1
              have M3 := Lib.hid hm3
              have M2 := Lib.hid hm2
              clear hm1 hm2 hm3
              go_wp2_with (at_builtin; refine app_new appEnt rfl _ _ rfl w.heap.size _ out.length _ rfl M2.out #[.string (strOf p), .slice Al vs.length cl] 43 1 rfl rfl (by intro u hu; simp at hu; rcases hu with rfl | rfl <;> rfl) (by decide) (by have := OLN.out; omega) HB.out.size ?_; intro g4 cap4 w4 hown4 hgr4 hb4 hbg4; have O4 := Lib.hid hown4; have B4 := Lib.hid (Below.trans HB.out hb4); clear hown4 hgr4 hb4 hbg4)
              go_meet
              case rel =>
                refine ⟨_, rfl, ⟨m ++ [(Al, cl, (p, vs))], by rw [← HR2.out, List.map_append, M1.out]; rfl, ?_, fun y hy => ?_⟩, B4.out⟩
                · rw [← HR2.out, List.length_append, entsC_snoc]
                  exact O4.out
                · rcases List.mem_append.1 hy with hy | hy
                  · exact M3.out y hy
                  · rw [List.mem_singleton.1 hy]; exact HV.out
          case rest =>
            obtain ⟨v1, rfl, ho1, he1⟩ := hcut
            obtain ⟨wy, hwy⟩ : ∃ wy, wy = wc := ⟨_, rfl⟩
            rw [← hwy] at ho1 he1 ⊢
            obtain ⟨Bv, cv, rfl, hev⟩ := ho1.ents he1
            have HEV := Lib.hid hev
            have EY := Lib.hid he1
            clear ho1 he1 hwy hev
            by_cases h128 : 128 < R.length
            · have f1 : (128 : Int) < (R.length : Int) := by omega
              go_wp2
              go_ret2
              rw [SS.out, if_pos h128]
              exact ⟨none, 0, rfl, NE.out _, EY.out⟩
            · have f1 : ¬ (128 : Int) < (R.length : Int) := by omega
              go_wp2
              go_ret2
              rw [SS.out, if_neg h128]
              first
                | exact ⟨Bv, cv, rfl, HEV.out, EY.out⟩
                | exact ⟨Bv, ⟨cv, rfl⟩, HEV.out, EY.out⟩
    · have S := Lib.hid (show Sp.rsetS l p vs = ([], Sp.leaf vs) by unfold Sp.rsetS; rw [if_neg (by simpa using HC.out), if_pos hlf])
      have c1 : (Sp.leaf vs == 0) = false := by rw [beq_eq_false_iff_ne]; exact hlf
      clear hlf
      go_wp2
      go_ret2
      rw [S.out]
      exact ⟨none, 0, rfl, NE.out _, B2.out⟩
  · have S := Lib.hid (show Sp.rsetS l p vs = ([], Sp.check p) by unfold Sp.rsetS; rw [if_pos hc])
    have c1 : (Sp.check p == 0) = false := by rw [beq_eq_false_iff_ne]; exact hc
    clear hc
    go_wp2
    go_ret2
    rw [S.out]
    exact ⟨none, 0, rfl, NE.out _, B1.out⟩
end Go.Proofs.YtmlfnidckfeebaaGreatDoor
