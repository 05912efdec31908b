/- Walks: whether the document's tree has a node at a directory. Walks: which of two paths stands ahead, the reference's. Walks: the document's tree of some entries. The tree of some entries and the document's: plain. A directory below a directory, in the document's words: plain. Walks: slices.IndexFunc and slices.DeleteFunc at entries. The winner of a leaf, plain. Walks: the document's node of a directory. -/
import Derived.Test.YtmlfnidckfeebaaGreatDoorQQ020
import Derived.Test.YtmlfnidckfeebaaGreatDoorQQ030
namespace Go.Proofs.YtmlfnidckfeebaaGreatDoor
open Go.RowKit Go.Shelf
attribute [local go_sem] yUpon strOf_toList
namespace Sp
def rthere (l : List DE) (d : Bs) : Bool := decide (d = []) || (decide (rget l d ≠ []) || decide (rnames d [] l ≠ []))
end Sp
set_option maxRecDepth 100000 in
set_option maxHeartbeats 4000000 in
theorem rthere_calls (l : List Sp.DE) (A : Option Addr) (cap : Nat) (d : Sp.Bs) (w : World) (h : EntsAt w A l) (hl : l.length ≤ 1000000) (hpl : ∀ e ∈ l, e.1.length ≤ 1000000) (hdl : d.length ≤ 1000000) :
    Calls Tryz.prog 216 #[.slice A l.length cap, .string (strOf d)] w fun e w' => e = .returned (.bool (Sp.rthere l d)) ∧ Ext w w' := by
  have GC := Lib.hid (rget_calls l A cap d w h hl)
  have NC := Lib.hid (rnames_calls l A cap d w h hl hpl hdl)
  clear h hpl
  go_enter Tryz.func216, Tryz.ntmps216
  by_cases hd : d = []
  · subst hd
    have c1 : (([] : List UInt8).isEmpty) = true := rfl
    go_wp2
    go_ret
    exact ⟨ret_bool (by simp [Sp.rthere]), Ext.refl _⟩
  · have c5 : d.isEmpty = false := by cases d with | nil => exact absurd rfl hd | cons _ _ => rfl
    have c6 : (d == []) = false := by rw [beq_eq_false_iff_ne]; exact hd
    have HD := Lib.hid hd
    clear hd
    go_wp2_with fail
    refine GC.out.mono ?_
    rintro e w1 ⟨Av, cv, rfl, _, rfl⟩
    by_cases hg : Sp.rget l d = []
    · rw [hg]
      have HG := Lib.hid hg
      clear hg
      go_wp2_with fail
      refine NC.out.mono ?_
      rintro e w2 ⟨B, c, rfl, _, hb⟩
      have HB := Lib.hid hb
      clear hb
      by_cases hn : Sp.rnames d [] l = []
      · rw [hn]
        have HN := Lib.hid hn
        clear hn
        go_wp2
        go_ret
        exact ⟨ret_bool (by simp [Sp.rthere, HG.out, HN.out, HD.out]), HB.out⟩
      · have HN := Lib.hid hn
        have n0 : 0 < (Sp.rnames d [] l).length := Nat.pos_of_ne_zero fun h => hn (List.eq_nil_of_length_eq_zero h)
        obtain ⟨n, hnn⟩ : ∃ n, n = (Sp.rnames d [] l).length := ⟨_, rfl⟩
        rw [← hnn] at n0 ⊢
        have n1 : (0 : Int) < (n : Int) := by omega
        clear hn hnn
        go_wp2
        go_ret
        exact ⟨ret_bool (by simp [Sp.rthere, HG.out, HN.out]), HB.out⟩
    · have HG := Lib.hid hg
      have n0 : 0 < (Sp.rget l d).length := Nat.pos_of_ne_zero fun h => hg (List.eq_nil_of_length_eq_zero h)
      obtain ⟨n, hnn⟩ : ∃ n, n = (Sp.rget l d).length := ⟨_, rfl⟩
      rw [← hnn] at n0 ⊢
      have n1 : (0 : Int) < (n : Int) := by omega
      clear hg hnn
      go_wp2
      go_ret
      exact ⟨ret_bool (by simp [Sp.rthere, HG.out]), Ext.refl _⟩
end Go.Proofs.YtmlfnidckfeebaaGreatDoor
namespace Go.Proofs.YtmlfnidckfeebaaGreatDoor
open Go.RowKit
attribute [local go_sem] yUpon
theorem bytesLess_list : ∀ (x y : List UInt8), Op.bytesLess x y = decide (Lib.compareBytes x y = -1)
  | [], [] => rfl
  | [], _ :: _ => rfl
  | _ :: _, [] => rfl
  | a :: x, b :: y => by
    unfold Op.bytesLess Lib.compareBytes
    by_cases h1 : a < b
    · simp [h1]
    · by_cases h2 : b < a
      · simp [h1, h2]
        rintro rfl; exact absurd h2 (UInt8.lt_irrefl _)
      · have : a = b := UInt8.le_antisymm (UInt8.not_lt.1 h2) (UInt8.not_lt.1 h1)
        simp [bytesLess_list x y, this]
theorem less_of (a b : ByteArray) : Op.bytesLess a.toList b.toList = decide (Lib.compareBytes a.data.toList b.data.toList = -1) := by rw [toList_data, toList_data]; exact bytesLess_list _ _
theorem same_of (a b : ByteArray) : (a.toList == b.toList) = decide (Lib.compareBytes a.data.toList b.data.toList = 0) := by
  rw [toList_data, toList_data, Bool.eq_iff_iff, beq_iff_eq, decide_eq_true_eq, Sp.cmpB_eq]
theorem split_len_le (s : Sp.Bs) : (Sp.split s).length ≤ s.length + 1 := by
  induction s with
  | nil => simp [Sp.split]
  | cons c r ih =>
    unfold Sp.split
    split
    · simp; omega
    · split <;> simp_all <;> omega
theorem pieces_some (s : ByteArray) (w : World) (hs : s.size < 4294967200) : Calls Tryz.prog 87 #[.string s] w fun e w' =>
    Below w.heap.size w w' ∧ ∃ (g cap : Nat) (L : List ByteArray), e = .returned (.slice (some ⟨g, 0, none⟩) L.length cap) ∧ L.map (·.data.toList) = Sp.split s.data.toList ∧ Strs w' g L ∧ w.heap.size ≤ g ∧ L.length ≤ cap ∧ L.length ≤ 4294967201 :=
  (pieces_calls s w hs).mono (by
    rintro e w1 ⟨hb1, (⟨h0, rfl⟩ | ⟨g1, c1, L, hl0, hlc, rfl, hL, hS1, hg1⟩)⟩
    · exact absurd h0 (Sp.split_ne _)
    · have := split_len_le s.data.toList
      rw [← hL, List.length_map] at this
      exact ⟨hb1, g1, c1, L, rfl, hL, hS1, hg1, hlc, by simp at this; omega⟩)
set_option maxRecDepth 100000 in
set_option maxHeartbeats 2000000 in
theorem rcompare_calls (s t : ByteArray) (w : World) (hs : s.size < 4294967200) (ht : t.size < 4294967200) :
    Calls Tryz.prog 30 #[.string s, .string t] w fun e w' => e = .returned (.int .i64 (Sp.compare s.data.toList t.data.toList)) ∧ Below w.heap.size w w' := by
  have S1 := Lib.hid (pieces_some s w hs)
  have S2 := Lib.hid fun w1 => pieces_some t w1 ht
  clear hs ht
  go_enter Tryz.func30, Tryz.ntmps30
  go_wp2_with (first
    | (go_at_call 87; with_reducible refine S1.out.mono ?_; rintro e w1 ⟨hb1, g1, c1, L, rfl, hL, hS1, hg1, hc1, hn1⟩; have HS1 := Lib.hid hS1; have HL := Lib.hid hL; clear hL hS1 S1)
    | (go_at_call 87; refine (S2.out _).mono ?_; rintro e w2 ⟨hb2, g2, c2, M, rfl, hM, hS2, hg2, hc2, hn2⟩; have HS2 := Lib.hid hS2; have HM := Lib.hid hM; clear hM hS2 S2))
  have hbb : Below w.heap.size w w2 := hb1.trans (hb2.mono hb1.size)
  have HC : ∀ k, (h : k < L.length) → w2.cell? ⟨g1, k, none⟩ = some (.string L[k]) := HS1.out.below hb2
  have CD := Lib.hid (show Sp.compare s.data.toList t.data.toList = Sp.cmpP ((L.map (·.data.toList)).drop 0) ((M.map (·.data.toList)).drop 0) by rw [HL.out, HM.out]; rfl)
  have CS := Lib.hid fun k h1 h2 => Sp.cmpP_step L M k h1 h2
  have CE := Lib.hid fun k (h : k = L.length ∨ k = M.length) => Sp.cmpP_end ((L.map (·.data.toList)).drop k) ((M.map (·.data.toList)).drop k) (by
    rcases h with h | h
    · exact .inl (List.drop_eq_nil_of_le (by simp; omega))
    · exact .inr (List.drop_eq_nil_of_le (by simp; omega)))
  go_loopw [7] (fun v7 wr => ∃ k : Nat, k ≤ L.length ∧ k ≤ M.length ∧ v7 = .int .i64 k ∧ Sp.compare s.data.toList t.data.toList = Sp.cmpP ((L.map (·.data.toList)).drop k) ((M.map (·.data.toList)).drop k) ∧ Below w2.heap.size w2 wr) (fun v7 _ => L.length - (intOf v7).toNat)
  case atStart => exact ⟨0, Nat.zero_le _, Nat.zero_le _, rfl, CD.out, Below.refl _ _⟩
  case round =>
    obtain ⟨k, hk, hk2, rfl, hc, hb⟩ := hrel
    by_cases hlt : k < L.length ∧ k < M.length
    · obtain ⟨hl, hm⟩ := hlt
      have c1 := HC k hl
      have c2 : w2.cell? ⟨g2, k, none⟩ = some (.string M[k]) := HS2.out k hm
      have st := CS.out k hl hm
      have e1 := less_of L[k] M[k]
      have e2 := same_of L[k] M[k]
      have E0 := Lib.hid (Sp.cmpB_eq L[k].data.toList M[k].data.toList)
      have rg := Sp.cmpB_range L[k].data.toList M[k].data.toList
      obtain ⟨x, hx⟩ : ∃ x, x = Lib.compareBytes L[k].data.toList M[k].data.toList := ⟨_, rfl⟩
      rw [← hx] at e1 e2 st rg E0
      clear hx HC
      rcases rg with h | h | h
      · have ne : ¬ L[k].data.toList = M[k].data.toList := fun e => absurd (E0.out.2 e) (by omega)
        rw [if_neg ne] at st
        have HCC := Lib.hid (hc.trans (st.trans h))
        rw [h] at e1 e2
        have e1' : Op.bytesLess L[k].toList M[k].toList = true := e1
        clear e1 e2 ne h hc st
        go_wp2_with fail
        refine wp_region_det (fun W => Below w2.heap.size w2 W) (by kernel_rfl) (by kernel_rfl) hb.drew ?_
        repeat (first
          | (refine det_step (fun K hK => ?_)
             apply Exists.intro
             refine ⟨Or.inl ⟨rfl, fun W hS => ?_⟩, ?_⟩
             · have hz : Below w2.heap.size w2 W := hS; have d1 := cellKept c1 hz; have d2 := cellKept c2 hz
               go_simp
               first
               | exact rfl
               | exact ⟨rfl, hS⟩
               | (fail)
             go_simp
             refine hK _ ?_
             clear hK K)
          | (refine det_step (fun K hK => ?_); refine det_no' rfl ?_; go_simp; refine hK _ ?_; clear hK K))
        refine det_nil ?_
        intro W9 hS
        replace hS : Below w2.heap.size w2 W9 := hS
        go_wp2_with fail
        go_ret
        exact ⟨by rw [HCC.out]; rfl, hbb.trans (hS.mono hbb.size)⟩
      · have eq := E0.out.1 h
        rw [if_pos eq] at st
        have HCC := Lib.hid (hc.trans st)
        rw [h] at e1 e2
        have e1' : Op.bytesLess L[k].toList M[k].toList = false := e1
        have e2' : (L[k].toList == M[k].toList) = true := e2
        clear e1 e2 eq h hc st
        go_wp2_with fail
        refine wp_region_det (fun W => Below w2.heap.size w2 W) (by kernel_rfl) (by kernel_rfl) hb.drew ?_
        repeat (first
          | (refine det_step (fun K hK => ?_)
             apply Exists.intro
             refine ⟨Or.inl ⟨rfl, fun W hS => ?_⟩, ?_⟩
             · have hz : Below w2.heap.size w2 W := hS; have d1 := cellKept c1 hz; have d2 := cellKept c2 hz
               go_simp
               first
               | exact rfl
               | exact ⟨rfl, hS⟩
               | (fail)
             go_simp
             refine hK _ ?_
             clear hK K)
          | (refine det_step (fun K hK => ?_); refine det_no' rfl ?_; go_simp; refine hK _ ?_; clear hK K))
        refine det_nil ?_
        intro W9 hS
        replace hS : Below w2.heap.size w2 W9 := hS
        go_wp2_with fail
        refine wp_region_det (fun W => Below w2.heap.size w2 W) (by kernel_rfl) (by kernel_rfl) hS.drew ?_
        repeat (first
          | (refine det_step (fun K hK => ?_)
             apply Exists.intro
             refine ⟨Or.inl ⟨rfl, fun W hS => ?_⟩, ?_⟩
             · have hz : Below w2.heap.size w2 W := hS; have d1 := cellKept c1 hz; have d2 := cellKept c2 hz
               go_simp
               first
               | exact rfl
               | exact ⟨rfl, hS⟩
               | (fail)
             go_simp
             refine hK _ ?_
             clear hK K)
          | (refine det_step (fun K hK => ?_); refine det_no' rfl ?_; go_simp; refine hK _ ?_; clear hK K))
        refine det_nil ?_
        intro W8 hS8
        replace hS8 : Below w2.heap.size w2 W8 := hS8
        go_wp2_with fail
        go_roundw
        case rel => exact ⟨k + 1, by omega, by omega, by go_num, HCC.out, hS8⟩
        case measure => simp [intOf]; omega
      · have ne : ¬ L[k].data.toList = M[k].data.toList := fun e => absurd (E0.out.2 e) (by omega)
        rw [if_neg ne] at st
        have HCC := Lib.hid (hc.trans (st.trans h))
        rw [h] at e1 e2
        have e1' : Op.bytesLess L[k].toList M[k].toList = false := e1
        have e2' : (L[k].toList == M[k].toList) = false := e2
        clear e1 e2 ne h hc st
        go_wp2_with fail
        refine wp_region_det (fun W => Below w2.heap.size w2 W) (by kernel_rfl) (by kernel_rfl) hb.drew ?_
        repeat (first
          | (refine det_step (fun K hK => ?_)
             apply Exists.intro
             refine ⟨Or.inl ⟨rfl, fun W hS => ?_⟩, ?_⟩
             · have hz : Below w2.heap.size w2 W := hS; have d1 := cellKept c1 hz; have d2 := cellKept c2 hz
               go_simp
               first
               | exact rfl
               | exact ⟨rfl, hS⟩
               | (fail)
             go_simp
             refine hK _ ?_
             clear hK K)
          | (refine det_step (fun K hK => ?_); refine det_no' rfl ?_; go_simp; refine hK _ ?_; clear hK K))
        refine det_nil ?_
        intro W9 hS
        replace hS : Below w2.heap.size w2 W9 := hS
        go_wp2_with fail
        refine wp_region_det (fun W => Below w2.heap.size w2 W) (by kernel_rfl) (by kernel_rfl) hS.drew ?_
        repeat (first
          | (refine det_step (fun K hK => ?_)
             apply Exists.intro
             refine ⟨Or.inl ⟨rfl, fun W hS => ?_⟩, ?_⟩
             · have hz : Below w2.heap.size w2 W := hS; have d1 := cellKept c1 hz; have d2 := cellKept c2 hz
               go_simp
               first
               | exact rfl
               | exact ⟨rfl, hS⟩
               | (fail)
             go_simp
             refine hK _ ?_
             clear hK K)
          | (refine det_step (fun K hK => ?_); refine det_no' rfl ?_; go_simp; refine hK _ ?_; clear hK K))
        refine det_nil ?_
        intro W8 hS8
        replace hS8 : Below w2.heap.size w2 W8 := hS8
        go_wp2_with fail
        go_ret
        exact ⟨by rw [HCC.out]; rfl, hbb.trans (hS8.mono hbb.size)⟩
    · have ce := CE.out k (by omega)
      simp only [List.length_drop, List.length_map] at ce
      have hfin : Below w.heap.size w wr := hbb.trans (hb.mono hbb.size)
      clear HC
      by_cases hl : k < L.length
      · obtain rfl : k = M.length := by omega
        have HCC := Lib.hid (show Sp.compare s.data.toList t.data.toList = 1 by rw [hc, ce]; omega)
        clear hc ce hlt
        go_wp2_with fail
        go_ret
        exact ⟨by rw [HCC.out]; rfl, hfin⟩
      · obtain rfl : k = L.length := by omega
        by_cases hm : L.length < M.length
        · have HCC := Lib.hid (show Sp.compare s.data.toList t.data.toList = -1 by rw [hc, ce]; omega)
          clear hc ce hlt
          go_wp2_with fail
          go_ret
          exact ⟨by rw [HCC.out]; rfl, hfin⟩
        · have HCC := Lib.hid (show Sp.compare s.data.toList t.data.toList = 0 by rw [hc, ce]; omega)
          clear hc ce hlt
          go_wp2_with fail
          go_ret
          exact ⟨by rw [HCC.out]; rfl, hfin⟩
end Go.Proofs.YtmlfnidckfeebaaGreatDoor
namespace Go.Proofs.YtmlfnidckfeebaaGreatDoor
open Go.RowKit Go.Shelf
attribute [local go_sem] yUpon strOf_toList
namespace Sp
theorem good_len {m : List DE} (h : GoodM m) : ∀ e ∈ m, e.1.length ≤ 1000000 := fun e he => Nat.le_trans (check_parts (h.1 e he)).2.1 (by decide)
end Sp
end Go.Proofs.YtmlfnidckfeebaaGreatDoor
namespace Go.Proofs.YtmlfnidckfeebaaGreatDoor
open Go.RowKit
namespace Sp
theorem under_bad2 {p d : Bs} (h1 : d ≠ []) (h2 : parts d = []) : under p d = false := by
  unfold under
  simp [h1, h2]
theorem rnames_bad {d : Bs} (h1 : d ≠ []) (h2 : parts d = []) : ∀ (m : List DE) (out : List Bs), rnames d out m = out
  | [], _ => rfl
  | e :: r, out => by rw [rnames, under_bad2 h1 h2]; exact rnames_bad h1 h2 r out
theorem there_both {o : Option T} {m : List DE} (he : toP m = entriesO o) (ho : GoodO o) (hm : GoodM m) (d : Bs) : rthere m d = (findS (o.getD .nil) d).isSome := by
  have hk : Ok (o.getD .nil) := by
    cases o with
    | none => exact ⟨fun h => absurd rfl h, List.Pairwise.nil, trivial⟩
    | some t => exact ho.1 t rfl
  unfold rthere findS
  by_cases hd : d = []
  · simp [hd]
  · by_cases hp : parts d = []
    · have hc : check d ≠ 0 := fun h => by
        have h2 := (check_parts h).1
        rw [hp] at h2
        exact split_ne d h2.symm
      rw [rget_bad hm.1 hc, rnames_bad hd hp]
      simp [hd, hp]
    · have hdir : Dir d := .inr (check_of_parts hp)
      obtain ⟨f1, f2⟩ := at_both he ho hm d hdir
      rw [if_neg hd, if_neg hp]
      cases hf : findT (o.getD .nil) (parts d) with
      | none =>
        rw [hf] at f1
        rw [get_subs m hm.1 d hdir, names_subs d hdir m hm.1 [], f1]
        simp [hd, entriesO, get0, namesE]
      | some s =>
        obtain ⟨g1, g2, g3⟩ := f2 s hf
        have hne := findT_ne (parts d) (o.getD .nil) s hk hp hf
        rw [g2, g3]
        cases s with
        | mk leaf k =>
          by_cases hl : leaf = []
          · by_cases hkk : k = []
            · exact absurd (by rw [hl, hkk]; rfl) hne
            · simp [T.leaf, T.kids, hkk]
          · simp [T.leaf, hl]
end Sp
end Go.Proofs.YtmlfnidckfeebaaGreatDoor
namespace Go.Proofs.YtmlfnidckfeebaaGreatDoor
open Go.RowKit
namespace Sp
theorem subs_snoc : ∀ (d : List Bs) (E : List PE) (n : Bs), subs E (d ++ [n]) = sub1 (subs E d) n
  | [], _, _ => rfl
  | _ :: d, E, n => subs_snoc d (sub1 E _) n
theorem kid_dir {m : List DE} (hm : GoodM m) {d : Bs} (hd : Dir d) {s : T} (hs : Ok s) (he : subs (toP m) (parts d) = entries s) (i : Nat) (h : i < s.kids.length) :
    Dir (down d (s.kids[i]).1) ∧ parts (down d (s.kids[i]).1) = parts d ++ [(s.kids[i]).1] ∧ subs (toP m) (parts (down d (s.kids[i]).1)) = entries (s.kids[i]).2 ∧ Ok (s.kids[i]).2 := by
  cases s with
  | mk leaf k =>
    obtain ⟨_, hr, hk⟩ := hs
    change i < k.length at h
    show Dir (down d (k[i]).1) ∧ parts (down d (k[i]).1) = parts d ++ [(k[i]).1] ∧ subs (toP m) (parts (down d (k[i]).1)) = entries (k[i]).2 ∧ Ok (k[i]).2
    have hka := kid_at k i h hr
    have e1 : subs (toP m) (parts d ++ [(k[i]).1]) = entries (k[i]).2 := by
      rw [subs_snoc, he, sub1_entries _ leaf k hr, hka]; rfl
    have hne := kid_ne k _ _ hk hka
    have hok := kid_ok k _ _ hk hka
    rw [← e1] at hne
    obtain ⟨e, hmem⟩ := List.exists_mem_of_ne_nil _ hne
    rw [subs_strip] at hmem
    obtain ⟨e0, h0, h1⟩ := List.mem_filterMap.1 hmem
    obtain ⟨e00, h00, rfl⟩ := List.mem_map.1 h0
    cases hst : stripP (parts d ++ [(k[i]).1]) (split e00.1) with
    | none => rw [hst] at h1; cases h1
    | some q =>
      have hsp := (stripP_some _ _ _).1 hst
      obtain ⟨c1, c2⟩ := check_prefix (hm.1 e00 h00) hsp (by simp)
      rw [← down_is hd] at c1 c2
      exact ⟨.inr c1, c2, by rw [c2]; exact e1, hok⟩
end Sp
end Go.Proofs.YtmlfnidckfeebaaGreatDoor
namespace Go.Proofs.YtmlfnidckfeebaaGreatDoor
open Go.RowKit Go.Shelf
attribute [local go_sem] yUpon strOf_toList
theorem entsC_one : ∀ (mo : List E3), ∀ u ∈ entsC mo, u.oneCell' = true
  | [], u, h => by cases h
  | x :: r, u, h => by
    rw [entsC_cons] at h
    rcases List.mem_cons.1 h with rfl | h
    · rfl
    rcases List.mem_cons.1 h with rfl | h
    · rfl
    · exact entsC_one r u h
end Go.Proofs.YtmlfnidckfeebaaGreatDoor
namespace Go.Proofs.YtmlfnidckfeebaaGreatDoor
open Go.RowKit
namespace Sp
def rbest (x : List Ver) : Option Ver := x.find? fun e => !(x.any fun k => wins k e)
theorem wins_live {a b : Ver} (ha : a.dead = false) (hb : b.dead = false) : wins a b = winsK a b := by rw [wins, ha, hb, if_pos rfl]
theorem best_inv : ∀ (r pre : List Ver) (b : Ver) (post : List Ver), (∀ x ∈ b :: r, x.dead = false) → (∀ x ∈ pre, winsK b x = true) → (∀ x ∈ post, ¬ winsK x b = true) →
    (best b r).dead = false ∧ ∃ pre' post', pre ++ b :: (post ++ r) = pre' ++ best b r :: post' ∧ (∀ x ∈ pre', winsK (best b r) x = true) ∧ ∀ x ∈ post', ¬ winsK x (best b r) = true
  | [], pre, b, post, hd, h1, h2 => ⟨hd b (List.mem_cons_self ..), pre, post, by rw [List.append_nil]; rfl, h1, h2⟩
  | v :: r, pre, b, post, hd, h1, h2 => by
    have hb := hd b (List.mem_cons_self ..)
    have hv := hd v (List.mem_cons_of_mem _ (List.mem_cons_self ..))
    have hr : ∀ x ∈ r, x.dead = false := fun x hx => hd x (List.mem_cons_of_mem _ (List.mem_cons_of_mem _ hx))
    rw [best, wins_live hv hb]
    by_cases hw : winsK v b = true
    · rw [if_pos hw]
      obtain ⟨k0, p, q, k1, k2, k3⟩ := best_inv r (pre ++ b :: post) v [] (fun x hx => (List.mem_cons.1 hx).elim (fun e => by rw [e]; exact hv) (hr x)) (fun x hx => by
        rcases List.mem_append.1 hx with h | h
        · have := h1 x h
          rw [winsK_iff] at *
          omega
        · rcases List.mem_cons.1 h with rfl | h
          · exact hw
          · have := h2 x h
            rw [winsK_iff] at *
            omega) (fun x h => by cases h)
      refine ⟨k0, p, q, ?_, k2, k3⟩
      rw [← k1]
      simp
    · rw [if_neg hw]
      obtain ⟨k0, p, q, k1, k2, k3⟩ := best_inv r pre b (post ++ [v]) (fun x hx => (List.mem_cons.1 hx).elim (fun e => by rw [e]; exact hb) (hr x)) h1 (fun x hx => by
        rcases List.mem_append.1 hx with h | h
        · exact h2 x h
        · rw [List.mem_singleton.1 h]; exact hw)
      refine ⟨k0, p, q, ?_, k2, k3⟩
      rw [← k1]
      simp
theorem live_alive (l : List Ver) : ∀ x ∈ live l, x.dead = false := fun x hx => by
  have := (List.mem_filter.1 hx).2
  simpa using this
theorem rbest_best (x : Ver) (r : List Ver) (hd : ∀ y ∈ x :: r, y.dead = false) : rbest (x :: r) = some (best x r) := by
  obtain ⟨k0, p, q, k1, k2, k3⟩ := best_inv r [] x [] hd (fun y h => by cases h) (fun y h => by cases h)
  rw [List.nil_append, List.nil_append] at k1
  have hd2 : ∀ y ∈ p ++ best x r :: q, y.dead = false := by rw [← k1]; exact hd
  unfold rbest
  rw [k1]
  obtain ⟨b, hb⟩ : ∃ b, b = best x r := ⟨_, rfl⟩
  rw [← hb] at k0 k2 k3 hd2 ⊢
  refine List.find?_eq_some_iff_append.2 ⟨?_, p, q, rfl, fun y hy => ?_⟩
  · have : ((p ++ b :: q).any fun k => wins k b) = false := by
      rw [List.any_eq_false]
      intro y hy
      rw [wins_live (hd2 y hy) k0]
      rcases List.mem_append.1 hy with h | h
      · have := k2 y h
        rw [winsK_iff] at *
        omega
      · rcases List.mem_cons.1 h with rfl | h
        · rw [winsK_iff]; omega
        · exact k3 y h
    rw [this]; rfl
  · have : ((p ++ b :: q).any fun k => wins k y) = true := by
      rw [List.any_eq_true]
      refine ⟨b, by simp, ?_⟩
      rw [wins_live k0 (hd2 y (List.mem_append_left _ hy))]
      exact k2 y hy
    rw [this]; rfl
theorem rbest_winner (l : List Ver) : rbest (live l) = winner l := by
  have := live_alive l
  unfold winner
  cases h : live l with
  | nil => rfl
  | cons x r => rw [h] at this; exact rbest_best x r this
theorem winner_some {l : List Ver} : (winner l).isSome = decide (live l ≠ []) := by
  unfold winner
  cases live l <;> simp
end Sp
end Go.Proofs.YtmlfnidckfeebaaGreatDoor
namespace Go.Proofs.YtmlfnidckfeebaaGreatDoor
open Go.RowKit Go.Shelf
attribute [local go_sem] yUpon strOf_toList
theorem kid_fold (s : ByteArray) (ds : List Value) (h : ds.length = 32) : List.foldl (fun (cs : Array Value) (x : Value × Nat) => cs.setIfInBounds (1 + x.snd) x.fst) (#[.string s, .int .u8 0, .int .u8 0, .int .u8 0, .int .u8 0, .int .u8 0, .int .u8 0, .int .u8 0, .int .u8 0, .int .u8 0, .int .u8 0, .int .u8 0, .int .u8 0, .int .u8 0, .int .u8 0, .int .u8 0, .int .u8 0, .int .u8 0, .int .u8 0, .int .u8 0, .int .u8 0, .int .u8 0, .int .u8 0, .int .u8 0, .int .u8 0, .int .u8 0, .int .u8 0, .int .u8 0, .int .u8 0, .int .u8 0, .int .u8 0, .int .u8 0, .int .u8 0] : Array Value) ds.zipIdx = (.string s :: ds).toArray := by
  rw [fold_putsA 1 ds 0]
  have := putsA_mid [.string s] (List.replicate 32 (.int .u8 0)) ds [] 1 rfl (by rw [h]; rfl)
  rw [List.append_nil, List.append_nil] at this
  exact this
theorem kid_fold2 (ka : Array Value) (h : ka.size = 33) : Array.foldl (fun (cs : Array Value) (x : Value × Nat) => cs.setIfInBounds x.snd x.fst) (#[.string ⟨#[]⟩, .int .u8 0, .int .u8 0, .int .u8 0, .int .u8 0, .int .u8 0, .int .u8 0, .int .u8 0, .int .u8 0, .int .u8 0, .int .u8 0, .int .u8 0, .int .u8 0, .int .u8 0, .int .u8 0, .int .u8 0, .int .u8 0, .int .u8 0, .int .u8 0, .int .u8 0, .int .u8 0, .int .u8 0, .int .u8 0, .int .u8 0, .int .u8 0, .int .u8 0, .int .u8 0, .int .u8 0, .int .u8 0, .int .u8 0, .int .u8 0, .int .u8 0, .int .u8 0] : Array Value) ka.zipIdx 0 33 = ka := by
  have hz : 33 = ka.zipIdx.size := by rw [Array.size_zipIdx, h]
  rw [hz, ← Array.foldl_toList, Array.toList_zipIdx]
  have h1 := fold_putsA 0 ka.toList 0 (#[.string ⟨#[]⟩, .int .u8 0, .int .u8 0, .int .u8 0, .int .u8 0, .int .u8 0, .int .u8 0, .int .u8 0, .int .u8 0, .int .u8 0, .int .u8 0, .int .u8 0, .int .u8 0, .int .u8 0, .int .u8 0, .int .u8 0, .int .u8 0, .int .u8 0, .int .u8 0, .int .u8 0, .int .u8 0, .int .u8 0, .int .u8 0, .int .u8 0, .int .u8 0, .int .u8 0, .int .u8 0, .int .u8 0, .int .u8 0, .int .u8 0, .int .u8 0, .int .u8 0, .int .u8 0] : Array Value)
  simp only [Nat.zero_add] at h1
  rw [h1]
  have h2 := putsA_mid [] (#[.string ⟨#[]⟩, .int .u8 0, .int .u8 0, .int .u8 0, .int .u8 0, .int .u8 0, .int .u8 0, .int .u8 0, .int .u8 0, .int .u8 0, .int .u8 0, .int .u8 0, .int .u8 0, .int .u8 0, .int .u8 0, .int .u8 0, .int .u8 0, .int .u8 0, .int .u8 0, .int .u8 0, .int .u8 0, .int .u8 0, .int .u8 0, .int .u8 0, .int .u8 0, .int .u8 0, .int .u8 0, .int .u8 0, .int .u8 0, .int .u8 0, .int .u8 0, .int .u8 0, .int .u8 0] : Array Value).toList ka.toList [] 0 rfl (by rw [Array.length_toList, h]; rfl)
  simpa using h2
section
variable {P : Program} {ops : Array Oper}
end
set_option maxRecDepth 100000 in
set_option maxHeartbeats 4000000 in
theorem rnode_step (m : List Sp.DE) (hm : Sp.GoodM m) (A : Option Addr) (cap : Nat) (d : Sp.Bs) (hdir : Sp.Dir d) (hdl : d.length ≤ 1000) (s : Sp.T) (hok : Sp.Ok s) (hsz : Sp.sizeT s ≤ 200) (hsub : Sp.subs (Sp.toP m) (Sp.parts d) = Sp.entries s)
    (IH : ∀ i (h : i < s.kids.length) (w : World), EntsAt w A m → KeysAt w 0 → Calls Tryz.prog 149 #[.slice A m.length cap, .string (strOf (Sp.down d (s.kids[i]).1))] w fun e w' => ∃ A2 c2 B2 c3, e = .returned (nodeV A2 (s.kids[i]).2.leaf.length c2 B2 (s.kids[i]).2.kids.length c3) ∧ Vers w' A2 (s.kids[i]).2.leaf ∧ Kids w' B2 (Sp.nodeT (s.kids[i]).2).2 ∧ Ext w w')
    (w : World) (hE : EntsAt w A m) (K : KeysAt w 0) :
    Calls Tryz.prog 149 #[.slice A m.length cap, .string (strOf d)] w fun e w' => ∃ A2 c2 B2 c3, e = .returned (nodeV A2 s.leaf.length c2 B2 s.kids.length c3) ∧ Vers w' A2 s.leaf ∧ Kids w' B2 (Sp.nodeT s).2 ∧ Ext w w' := by
  have hget : Sp.rget m d = s.leaf := by
    rw [Sp.get_subs m hm.1 d hdir, hsub]
    cases s with
    | mk leaf k => exact Sp.get0_entries leaf k
  have hnam : Sp.rnames d [] m = s.kids.map (·.1) := by
    rw [Sp.names_subs d hdir m hm.1 [], hsub]
    cases s with
    | mk leaf k => exact Sp.namesE_entries leaf k hok.2.1 hok.2.2
  have GC := Lib.hid (show ∀ W, Ext w W → _ from fun W e => rget_calls m A cap d W (hE.ext e) (Nat.le_trans hm.2 (by decide)))
  have NC := Lib.hid (show ∀ W, Ext w W → _ from fun W e => rnames_calls m A cap d W (hE.ext e) (Nat.le_trans hm.2 (by decide)) (Sp.good_len hm) (Nat.le_trans hdl (by decide)))
  rw [hget] at GC
  rw [hnam, List.length_map] at NC
  have HIH := Lib.hid IH
  have HE := Lib.hid hE
  have KK := Lib.hid K
  have hkl : s.kids.length ≤ 200 := by
    have h1 := Sp.kids_size s.kids (ok_rise hok).2
    have h2 := Sp.sizeT_n0 s
    omega
  have HOK := Lib.hid hok
  have tok1 : True := trivial
  have tok2 : True := trivial
  clear hget hnam IH hE K hsub hok hm hdir
  go_enter Tryz.func149, Tryz.ntmps149
  go_wp2_with (have _t := tok1; ((with_reducible refine at_alloc (t := 116) rfl ?_); refine box_new rfl (cs := #[.slice none 0 0, .slice none 0 0]) (t := 116) (by first | (go_simp; done) | (go_simp; rfl)) ?_; intro g2 w2 hg2 hx2 hb2; have H2 := Lib.hid hx2; have B2 := Lib.hid (show Ext w w2 from hb2); have GG2 := Lib.hid hg2; clear tok1 _t hx2 hb2 hg2))
  refine (GC.out w2 B2.out).mono ?_
  rintro e w2' ⟨Av, cv, rfl, hv, rfl⟩
  have V2 := Lib.hid hv
  clear hv
  go_wp2_with (have _t := tok2; ((with_reducible refine at_alloc (t := 116) rfl ?_); refine box_new rfl (cs := #[.slice none 0 0, .slice none 0 0]) (t := 116) (by first | (go_simp; done) | (go_simp; rfl)) ?_; intro g4 w4 hg4 hx4 hb4; have H4 := Lib.hid hx4; have B4 := Lib.hid (show Ext w2 w4 from hb4); have GG4 := Lib.hid hg4; have k0 := (hx4.cell 0).trans rfl; have k1 := (hx4.cell 1).trans rfl; have k2 := hx4.frozen 0; have k3 := hx4.frozen 1; clear tok2 _t hx4 hb4 hg4))
  obtain ⟨w5, hw5⟩ : ∃ w5, w5 = (w4.setCell ⟨g4, 0, none⟩ (.slice Av s.leaf.length cv)).setCell ⟨g4, 1, none⟩ (.slice none 0 0) := ⟨_, rfl⟩
  have X5 := Lib.hid (show isBlk w5 g4 116 #[.slice Av s.leaf.length cv, .slice none 0 0] by rw [hw5]; exact (H4.out.put 0 _ rfl).put 1 _ rfl)
  have B5 := Lib.hid (show Ext w2 w5 by rw [hw5]; exact (B4.out.setCell GG4.out _).setCell GG4.out _)
  rw [← hw5]
  clear hw5 k0 k1 k2 k3
  refine (NC.out w5 (B2.out.trans B5.out)).mono ?_
  rintro e wn ⟨Bn, cn, rfl, hnn, hbn⟩
  have NN := Lib.hid hnn
  have BN := Lib.hid (show Ext w5 wn from hbn)
  have XN := Lib.hid (X5.out.below hbn)
  clear hnn hbn
  go_wp2
  have GN := Lib.hid (show g4 < wn.heap.size from XN.out.lt)
  have E5 := Lib.hid (show Ext w wn from B2.out.trans (B5.out.trans BN.out))
  have G4W := Lib.hid (show w.heap.size ≤ g4 from Nat.le_trans B2.out.size GG4.out)
  have hlen : (s.kids.map (·.1)).length = s.kids.length := List.length_map ..
  go_loopw [7] (fun v7 wr => ∃ (k : Nat) (v : Value), k ≤ s.kids.length ∧ v7 = .int .i64 k ∧ isBlk wr g4 116 #[.slice Av s.leaf.length cv, v] ∧ wr.ownsRow wn.heap.size 268 33 v k (kidsC ((Sp.nodeT s).2.take k)) ∧ Only g4 wn wr) (fun v7 _ => s.kids.length - (intOf v7).toNat)
  case atStart => exact ⟨0, _, Nat.zero_le _, rfl, XN.out, World.ownsRow_nil _ _ _ _, Only.refl _ _⟩
  case round =>
    obtain ⟨k, v, hk2, rfl, hx, ho, hon⟩ := hrel
    have HX := Lib.hid hx
    have HO := Lib.hid ho
    have ON := Lib.hid hon
    have EW := Lib.hid (show Ext w wr from E5.out.from' (hon.below G4W.out E5.out.size))
    have NW := Lib.hid (show Nams wr Bn (s.kids.map (·.1)) from Cells.apart NN.out hon XN.out (by
      intro z hz
      simp at hz
      rcases hz with rfl | rfl <;> rfl) (by
      intro u hu
      rw [strsC, List.getElem?_map] at hu
      cases hq : (s.kids.map (·.1))[0]? with
      | none => rw [hq] at hu; cases hu
      | some b => rw [hq] at hu; cases hu; rfl))
    clear hx ho hon
    by_cases hlt : k < s.kids.length
    · obtain ⟨nb, no, rfl, hnm⟩ := NW.out.at (by simp; omega)
      have n0 := hnm k (by simpa using hlt)
      rw [List.getElem_map] at n0
      have IK := Lib.hid (HIH.out k hlt)
      have NL := Lib.hid (show (s.kids[k]).1.length ≤ 12 from Sp.name_len (Sp.kids_names s.kids (ok_rise HOK.out).2 _ (List.getElem_mem hlt)))
      obtain ⟨x, hxk⟩ : ∃ x, x = s.kids[k] := ⟨_, rfl⟩
      rw [← hxk] at n0 IK NL
      have XK := Lib.hid hxk
      have k0 := (HX.out.cell 1).trans rfl
      have b1 : (k : Int) < (s.kids.length : Int) := by omega
      have DC := Lib.hid (down_calls d x.1 wr.drew hdl (by have := NL.out; omega))
      have tokD : True := trivial
      have tokN : True := trivial
      have tokS : True := trivial
      have X1 := Lib.hid n0
      have OKX := Lib.hid (show Sp.Ok x.2 from (by rw [hxk]; exact Sp.kid_ok s.kids _ _ (ok_rise HOK.out).2 (Sp.kid_at s.kids k hlt (ok_rise HOK.out).1)))
      have SZX := Lib.hid (show x.2.kids.length ≤ 200 from (by
        have h1 := Sp.kids_size x.2.kids (ok_rise OKX.out).2
        have h2 := Sp.sizeT_n0 x.2
        have h3 := Sp.kid_size s.kids (s.kids[k]).1 (s.kids[k]).2 (Sp.kid_at s.kids k hlt (ok_rise HOK.out).1)
        rw [← hxk] at h3
        have h4 := Sp.sizeT_n0 s
        omega))
      obtain ⟨ds, hds⟩ : ∃ ds, ds = (Sp.nsum (Sp.nodeT x.2)).map byteV := ⟨_, rfl⟩
      have DL := Lib.hid (show ds.length = 32 by rw [hds, List.length_map, Sp.nsum_len])
      have RSM := Lib.hid (show ∀ A c B c' W, Vers W A x.2.leaf → Kids W B (Sp.nodeT x.2).2 → KeysAt W 0 → Calls Tryz.prog 217 #[nodeV A x.2.leaf.length c B x.2.kids.length c'] W fun e w' => e = .returned (.agg ds.toArray) ∧ Ext W w' from fun A c B c' W hv hk hK => by
        have nl : (Sp.nodeT x.2).2.length = x.2.kids.length := by rw [nodeT_kids, List.length_map]
        have l0 : Sp.leaf x.2.leaf = 0 := by
          have := OKX.out
          cases hx2 : x.2 with
          | mk leaf kids =>
            rw [hx2] at this
            by_cases h0 : leaf = []
            · rw [h0]; rfl
            · exact this.1 h0
        have := rnsum_calls (Sp.nodeT x.2) A B c c' W (by rw [nodeT_leaf]; exact hv) hk (by rw [nodeT_leaf]; exact Nat.le_trans (Sp.leaf_ok l0).1 (by decide)) (by rw [nodeT_leaf]; exact fun v hv => ⟨Nat.le_trans (Sp.leaf_data l0 v hv) (by decide), Nat.le_trans ((Sp.leaf_fit fun _ => l0).2 v hv) (by decide)⟩) (by rw [nl]; exact Nat.le_trans SZX.out (by decide)) hK
        rw [nodeT_leaf, nl] at this
        rw [hds]
        exact this)
      obtain ⟨ka, hka⟩ : ∃ ka, ka = (kidL (x.1, Sp.nsum (Sp.nodeT x.2))).toArray := ⟨_, rfl⟩
      have BK := Lib.hid (show (Tryz.prog).built 268 [(0, .string (strOf x.1)), (1, .agg ds.toArray)] = some ka by rw [hka, hds]; exact built_kid (x.1, Sp.nsum (Sp.nodeT x.2)) (Sp.nsum_len _))
      have KA := Lib.hid hka
      have dl : ds.length = 32 := DL.out
      have hfold := kid_fold (strOf x.1) ds DL.out
      rw [show (Value.string (strOf x.1) :: ds).toArray = ka by rw [hka, hds]; rfl] at hfold
      have KS := Lib.hid (show ka.size = 33 by rw [hka, List.size_toArray, kidL_len _ (Sp.nsum_len _)])
      have ks := KS.out
      have hfold2 := kid_fold2 ka KS.out
      have KO := Lib.hid (show ∀ u ∈ ka.toList, u.oneCell' = true by
        rw [hka]
        intro u hu
        have : u ∈ kidsC [(x.1, Sp.nsum (Sp.nodeT x.2))] := by simpa [kidsC] using hu
        exact kids_one _ u this)
      have tokA : True := trivial
      clear hnm hxk hds hka
      go_wp2_with fail
      refine wp_region_seqT (fun W => Ext wr W) 12 17 (by kernel_rfl) (by kernel_rfl) (Ext.refl wr).drew ?_
      simp only [List.take_succ_cons, List.take_zero, List.drop_succ_cons, List.drop_zero]
      repeat (first
        | (refine floatT_step (fun K hK => ?_)
           apply Exists.intro
           refine ⟨Or.inl ⟨rfl, fun W hS => ?_⟩, ?_⟩
           · have hz : Ext wr W := hS; have k0 := ((HX.out.below hz).cell 1).trans rfl; have n0 := hz.cell X1.out
             go_simp
             first | done | exact rfl
           go_simp
           refine hK _ ?_
           clear hK K))
      refine floatT_nil ?_
      refine seqT_succ (n := 4) (fun Q' hQ' => ?_)
      go_wp2_with fail
      refine DC.out.mono ?_
      rintro e w8 ⟨rfl, rfl⟩
      go_wp2
      refine hQ' _ _ (Ext.refl wr).drew ?_
      clear hQ'
      refine seqT_succ (n := 3) (fun Q' hQ' => ?_)
      go_wp2_with fail
      refine (IK.out wr.drew (HE.out.ext EW.out.drew) (KK.out.ext EW.out.drew)).mono ?_
      rintro e w8 ⟨A8, c8, B8, c9, rfl, hv8, hk8, hb8⟩
      have V8 := Lib.hid hv8
      have K8 := Lib.hid hk8
      have B8' := Lib.hid (show Ext wr w8 from Below.trans (Below.refl _ _).drew hb8)
      clear hv8 hk8 hb8
      go_wp2
      refine hQ' _ _ B8'.out ?_
      clear hQ'
      refine seqT_succ (n := 2) (fun Q' hQ' => ?_)
      go_wp2_with fail
      refine (RSM.out _ _ _ _ w8 V8.out K8.out (KK.out.ext (EW.out.trans B8'.out))).mono ?_
      rintro e w9 ⟨rfl, hb9⟩
      have B9 := Lib.hid (show Ext wr w9 from B8'.out.trans hb9)
      clear hb9
      go_wp2
      refine hQ' _ _ B9.out ?_
      clear hQ'
      refine seqT_succ (n := 1) (fun Q' hQ' => ?_)
      go_wp2_with fail
      refine hQ' _ _ B9.out ?_
      clear hQ'
      refine seqT_succ (n := 0) (fun Q' hQ' => ?_)
      go_wp2_with ((with_reducible refine at_bslice rfl ?_); refine bslice_one rfl 114 268 _ rfl appKid (by decide) ka rfl KS.out ?_)
      refine hQ' _ _ (Below.alloc B9.out B9.out.size _) ?_
      clear hQ'
      refine seqT_zero ?_
      go_wp2_with (have _t := tokA; at_builtin; refine app_new appKid rfl _ _ rfl wn.heap.size v k _ rfl (own_ext HO.out B9.out) ka 268 1 rfl (by rw [KS.out]) KO.out (by decide) (by omega) (Nat.le_trans ON.out.size B9.out.size) ?_; intro g6 cap6 w10 hown10 hgr10 hb10 hbg10; have O10 := Lib.hid hown10; have B10 := Lib.hid hb10; have G10 := Lib.hid hbg10; have Z10 := Lib.hid (show isBlk w10 g4 116 #[.slice Av s.leaf.length cv, v] from (hb10.block g4 GN.out).trans (HX.out.below B9.out)); have k0 := (Z10.out.cell 1).trans rfl; have k1 := Z10.out.frozen 1; clear tokA _t hown10 hgr10 hb10 hbg10)
      refine ⟨rfl, ?_⟩
      go_wp2
      have hkl2 : k < (Sp.nodeT s).2.length := by rw [nodeT_kids, List.length_map]; exact hlt
      have e1 : kidsC ((Sp.nodeT s).2.take (k + 1)) = kidsC ((Sp.nodeT s).2.take k) ++ ka.toList := by
        rw [List.take_succ_eq_append_getElem hkl2, kidsC_snoc, KA.out]
        congr 1
        simp only [nodeT_kids, List.getElem_map, ← XK.out]
      have on10 : Only g4 wn w10 := (ON.out.then_ext (below_lower B9.out ON.out.size)).then_ext B10.out
      refine ⟨⟨k + 1, .slice (some ⟨g6, 0, none⟩) (k + 1) cap6, by omega, by go_num, Z10.out.put 1 _ rfl, ?_, on10.trans (Only.set _ _ _ _)⟩, by simp [intOf]; omega⟩
      rw [e1]
      exact own_far O10.out (fun e => by have e2 : g6 = g4 := Option.some.inj e
                                         have := G10.out; have := GN.out; omega) _
    · obtain rfl : k = s.kids.length := by omega
      obtain ⟨Bk, c3, rfl, hK⟩ := own_read HO.out
      have hne : g2 ≠ g4 := by have := H2.out.lt; have := GG4.out; omega
      have hZn : isBlk wn g2 116 #[.slice none 0 0, .slice none 0 0] := H2.out.below (B5.out.trans BN.out)
      have HZ := Lib.hid (show isBlk wr g2 116 #[.slice none 0 0, .slice none 0 0] from ON.out.blk hZn hne)
      have k0 := (HX.out.cell 0).trans rfl
      have k1 := (HX.out.cell 1).trans rfl
      have k2 := (HZ.out.cell 0).trans rfl
      have k3 := (HZ.out.cell 1).trans rfl
      have k4 := HZ.out.frozen 0
      have k5 := HZ.out.frozen 1
      go_wp2
      have hz := (HZ.out.put 0 (.slice Av s.leaf.length cv) rfl).put 1 (.slice Bk s.kids.length c3) rfl
      refine bodyPost_ret (results_cell_row rfl _ _ g2 116 #[.slice Av s.leaf.length cv, .slice Bk s.kids.length c3] (0, 0) _ rfl hz Tryz.underlying116 rfl (by kernel_rfl)) rfl ?_
      have e1 := (Only.set g2 0 (.slice Av s.leaf.length cv) wr).trans (Only.set g2 1 (.slice Bk s.kids.length c3) _)
      have hs : ∀ z ∈ (#[.slice none 0 0, .slice none 0 0] : Array Value).toList, isSl z = true := by decide
      have hs4 : ∀ z ∈ (#[.slice Av s.leaf.length cv, .slice none 0 0] : Array Value).toList, isSl z = true := by
        intro z hz
        simp at hz
        rcases hz with rfl | rfl <;> rfl
      have nl : (Sp.nodeT s).2.length = s.kids.length := by rw [nodeT_kids, List.length_map]
      rw [List.take_of_length_le (by omega)] at hK
      have KK2 : Kids wr Bk (Sp.nodeT s).2 := ⟨hK, fun y hy => by
        rw [nodeT_kids] at hy
        obtain ⟨u, hu, rfl⟩ := List.mem_map.1 hy
        exact ⟨Sp.nsum_len _, Nat.le_trans (Sp.name_len (Sp.kids_names s.kids (ok_rise HOK.out).2 u hu)) (by decide)⟩⟩
      have VR : Vers wr Av s.leaf := (V2.out.ext (B5.out.trans BN.out)).apart ON.out XN.out hs4
      exact ⟨Av, cv, Bk, c3, rfl, VR.apart e1 HZ.out hs, KK2.apart e1 HZ.out hs, EW.out.from' (e1.below GG2.out EW.out.size)⟩
end Go.Proofs.YtmlfnidckfeebaaGreatDoor
