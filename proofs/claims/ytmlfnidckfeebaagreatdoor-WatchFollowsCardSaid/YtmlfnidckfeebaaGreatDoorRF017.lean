/- Walks: a tree with a leaf at a path; how many paths it has. Walks: the tree of some entries. Walks: strings.Join of a path's names. A law for a region that draws its order: first operations that tell one value in every world of a kind T, and may come late; then a forced sequence, the first so many of which stay in T. The laws for regions that draw their order, where a range over a function calls back (a fence that lets all in; a round, or none). -/
import Derived.RegionIn
import Derived.Test.YtmlfnidckfeebaaGreatDoorRF016
namespace Go.Proofs.YtmlfnidckfeebaaGreatDoor
open Go.RowKit Go.Shelf
attribute [local go_sem] yUpon
abbrev MaxAt (w : World) : Prop := ∃ m, w.cell? ⟨1, 0, none⟩ = some (.int .i64 m)
namespace Sp
def setCode (o : Option T) (p : Bs) (l : List Ver) : Int := if check p ≠ 0 then check p else if leaf l ≠ 0 then leaf l else if 128 < (entriesO (withO o (split p) l)).length then 4 else 0
theorem withO_getD : ∀ (o : Option T) (ps : List Bs) (l : List Ver), withO (some (o.getD .nil)) ps l = withO o ps l
  | none, [], _ => rfl
  | none, _ :: _, _ => rfl
  | some _, [], _ => rfl
  | some _, _ :: _, _ => rfl
theorem getD_size (o : Option T) : sizeT (o.getD .nil) = (entriesO o).length := by
  cases o with
  | none => rfl
  | some t => exact sizeT_len t
end Sp
set_option maxRecDepth 100000 in
set_option maxHeartbeats 4000000 in
theorem len_calls (o : Option Sp.T) (v : Value) (w : World) (h : TreeAt w v o) (K : KeysAt w 2) :
    Calls Tryz.prog 113 #[v] w fun e w' => e = .returned (.int .i64 (Sp.entriesO o).length) ∧ Ext w w' := by
  have RC := Lib.hid (root_calls o v w h K)
  have GS := Lib.hid (Sp.getD_size o)
  clear h K
  go_enter Tryz.func113, Tryz.ntmps113
  go_wp2_with fail
  refine RC.out.mono ?_
  rintro e w1 ⟨g, rfl, hi, hb⟩
  have f3 := hi.cells.1
  rw [GS.out] at f3
  clear hi
  go_wp2
  go_ret
  exact ⟨rfl, hb⟩
theorem ToldStrs.nams {w w' : World} {l : List Sp.Bs} {e : Ending} (h : ToldStrs w l e w') : ∃ A cap, e = .returned (.slice A l.length cap) ∧ l.length ≤ cap ∧ Nams w' A l ∧ Ext w w' := by
  obtain ⟨hb, ⟨rfl, rfl⟩ | ⟨g, cap, L, h0, hc, rfl, hL, hs, hg⟩⟩ := h
  · exact ⟨none, 0, rfl, Nat.le_refl _, Cells.nil _ _, hb⟩
  · have hl : l.length = L.length := by rw [← hL, List.length_map]
    refine ⟨_, cap, by rw [hl], by omega, fun _ => ⟨g, 0, rfl, fun j u hj => ?_⟩, hb⟩
    subst hL
    rw [strsC, List.getElem?_map, List.getElem?_map] at hj
    cases hLj : L[j]? with
    | none => rw [hLj] at hj; cases hj
    | some s =>
      rw [hLj] at hj
      cases hj
      obtain ⟨h1, h2⟩ := List.getElem?_eq_some_iff.1 hLj
      rw [Nat.zero_add, hs j h1, h2]
      show some (Value.string s) = some (Value.string (strOf s.data.toList))
      rw [strOf_self]
set_option maxRecDepth 100000 in
set_option maxHeartbeats 4000000 in
theorem set_calls (o : Option Sp.T) (v : Value) (p : Sp.Bs) (l : List Sp.Ver) (Al : Option Addr) (cl : Nat) (w : World) (h : TreeAt w v o) (hok : ∀ t, o = some t → Sp.Ok t) (hsz : (Sp.entriesO o).length ≤ 900000) (hV : Vers w Al l) (K : KeysAt w 2) (M : MaxAt w) :
    Calls Tryz.prog 48 #[v, .string (strOf p), .slice Al l.length cl] w fun e w' => ∃ v', e = .returned (.tuple #[v', .int .i64 (Sp.setCode o p l)]) ∧ (Sp.setCode o p l = 0 → TreeAt w' v' (Sp.withO o (Sp.split p) l)) ∧ (Sp.setCode o p l ≠ 0 → v' = .pointer none) ∧ Ext w w' := by
  have PC := Lib.hid (pcheck_calls (strOf p) w M)
  rw [strOf_data] at PC
  have HH := Lib.hid h
  have HV := Lib.hid hV
  have KK := Lib.hid K
  have MM := Lib.hid M
  have HOK := Lib.hid hok
  have HSZ := Lib.hid hsz
  clear h hV K M hok hsz
  go_enter Tryz.func48, Tryz.ntmps48
  go_wp2_with fail
  refine PC.out.mono ?_
  rintro e w1 ⟨rfl, hb1⟩
  have B1 := Lib.hid (show Ext w w1 from hb1)
  clear hb1 PC
  by_cases hc : Sp.check p = 0
  · rw [hc]
    have HC := Lib.hid hc
    have LC := Lib.hid (leaf_calls l Al cl w1 (HV.out.ext B1.out))
    clear hc
    go_wp2_with fail
    refine LC.out.mono ?_
    rintro e w2 ⟨rfl, hb2⟩
    have B2 := Lib.hid (B1.out.trans hb2)
    clear hb2 LC
    by_cases hl : Sp.leaf l = 0
    · rw [hl]
      have HL := Lib.hid hl
      have LF := Lib.hid (Sp.leaf_fit (l := l) fun _ => hl)
      have CP := Lib.hid (Sp.check_parts HC.out)
      clear hl
      go_wp2_with fail
      refine (root_calls o v w2 (HH.out.ext B2.out) (KK.out.ext B2.out)).mono ?_
      rintro e w3 ⟨g, rfl, hi, hb3⟩
      have HI := Lib.hid hi
      have B3 := Lib.hid (B2.out.trans hb3)
      clear hi hb3
      go_wp2_with fail
      refine (parts_calls (strOf p) w3 (max_kept MM.out B3.out)).mono ?_
      intro e w4 ht
      obtain ⟨Ap, cp, rfl, hcp, hN, hb4⟩ := ht.nams
      rw [strOf_data, CP.out.1] at hcp hN ⊢
      have HN := Lib.hid hN
      have HCP := Lib.hid hcp
      have HI4 := Lib.hid (HI.out.ext hb4)
      have B4 := Lib.hid (B3.out.trans hb4)
      clear ht hcp hN hb4
      go_wp2_with fail
      refine (copied_calls l Al cl w4 (HV.out.ext B4.out) (Nat.le_trans LF.out.1 (by decide)) (fun v hv => Nat.le_trans (LF.out.2 v hv) (by decide))).mono ?_
      rintro e w5 ⟨v5, rfl, hO5, hb5⟩
      obtain ⟨A5, c5, rfl, hV5⟩ := hO5.read
      have V5 := Lib.hid hV5
      have B5 := Lib.hid (B4.out.trans hb5)
      have HI5 := Lib.hid (HI4.out.ext hb5)
      have HN5 := Lib.hid (HN.out.ext hb5)
      clear hO5 hV5 hb5
      have WC := Lib.hid (with_calls l (fun _ => HL.out) A5 c5 (Sp.split p) (some (o.getD .nil)) (.pointer (some ⟨g, 0, none⟩)) Ap cp w5 (.inr ⟨g, _, rfl, rfl, HI5.out⟩) (fun t ht => by cases ht; exact getD_ok HOK.out) (fun t ht => by cases ht; rw [Sp.getD_size]; exact HSZ.out) HN5.out HCP.out
        (fun n hn => List.all_eq_true.1 CP.out.2.2.2 n hn) (Nat.le_trans CP.out.2.2.1 (by decide)) V5.out (KK.out.ext B5.out))
      rw [Sp.withO_getD] at WC
      go_wp2_with fail
      refine WC.out.mono ?_
      rintro e w6 ⟨v6, rfl, ho6, hb6⟩
      have O6 := Lib.hid ho6
      have B6 := Lib.hid (B5.out.trans hb6)
      obtain ⟨o6, ho6'⟩ : ∃ o6, o6 = Sp.withO o (Sp.split p) l := ⟨_, rfl⟩
      rw [← ho6'] at O6
      have HO6 := Lib.hid ho6'
      have tokB : True := trivial
      have v6c := Lib.hid (show v6.cells = #[v6] ∧ v6.oneCell' = true by obtain ⟨oa, rfl⟩ := ho6.ptr; exact ⟨rfl, rfl⟩)
      obtain ⟨oa, rfl⟩ := ho6.ptr
      clear ho6 hb6 ho6' v6c
      go_wp2_with (have _t := tokB; ((with_reducible refine at_box (t := 153) rfl ?_); refine box_new rfl (cs := #[.pointer oa]) (t := 153) (by first | (go_simp; done) | (go_simp; rfl)) ?_; intro g7 w7 hg7 hx7 hb7; have X7 := Lib.hid hx7; have B7 := Lib.hid (show Ext w6 w7 from hb7); clear tokB _t hx7 hb7 hg7))
      have T7 := Lib.hid (show TreeAt w7 (.pointer (some ⟨g7, 0, none⟩)) o6 from .inr ⟨g7, _, rfl, X7.out, O6.out.ext B7.out⟩)
      refine (len_calls o6 _ w7 T7.out (KK.out.ext (B6.out.trans B7.out))).mono ?_
      rintro e w8 ⟨rfl, hb8⟩
      have B8 := Lib.hid (show Ext w7 w8 from hb8)
      clear hb8
      have SC := Lib.hid (show Sp.setCode o p l = if 128 < (Sp.entriesO o6).length then 4 else 0 by unfold Sp.setCode; rw [if_neg (by simpa using HC.out), if_neg (by simpa using HL.out), ← HO6.out])
      obtain ⟨n6, hn6⟩ : ∃ n6, n6 = (Sp.entriesO o6).length := ⟨_, rfl⟩
      rw [← hn6] at SC ⊢
      have BB := Lib.hid (B6.out.trans (B7.out.trans B8.out))
      clear hn6
      by_cases h128 : 128 < n6
      · have c1 : (128 : Int) < (n6 : Int) := by omega
        go_wp2
        go_ret2
        rw [SC.out, if_pos h128]
        exact ⟨_, rfl, fun h => absurd h (by decide), fun _ => rfl, BB.out⟩
      · have c1 : ¬ (128 : Int) < (n6 : Int) := by omega
        go_wp2
        go_ret2
        rw [SC.out, if_neg h128]
        exact ⟨_, rfl, fun _ => by rw [← HO6.out]; exact T7.out.ext B8.out, fun h => absurd rfl h, BB.out⟩
    · have SC := Lib.hid (show Sp.setCode o p l = Sp.leaf l by unfold Sp.setCode; rw [if_neg (by simpa using HC.out), if_pos hl])
      have c1 : (Sp.leaf l == 0) = false := by rw [beq_eq_false_iff_ne]; exact hl
      go_wp2
      go_ret2
      rw [SC.out]
      exact ⟨_, rfl, fun h => absurd h hl, fun _ => rfl, B2.out⟩
  · have SC := Lib.hid (show Sp.setCode o p l = Sp.check p by unfold Sp.setCode; rw [if_pos hc])
    have c1 : (Sp.check p == 0) = false := by rw [beq_eq_false_iff_ne]; exact hc
    go_wp2
    go_ret2
    rw [SC.out]
    exact ⟨_, rfl, fun h => absurd h hc, fun _ => rfl, B1.out⟩
def entC (x : Option Addr × Nat × Sp.DE) : List Value := [.string (strOf x.2.2.1), .slice x.1 x.2.2.2.length x.2.1]
def entsC : List (Option Addr × Nat × Sp.DE) → List Value
  | [] => []
  | x :: r => entC x ++ entsC r
theorem entsC_len : ∀ m, (entsC m).length = m.length * 2
  | [] => rfl
  | x :: r => by rw [entsC, List.length_append, entsC_len r, List.length_cons]; simp [entC]; omega
theorem entsC_get : ∀ (m : List (Option Addr × Nat × Sp.DE)) (k j : Nat) (h : k < m.length), j < 2 → (entsC m)[k * 2 + j]? = (entC m[k])[j]?
  | x :: r, 0, j, _, hj => by
    rw [entsC, Nat.zero_mul, Nat.zero_add, List.getElem?_append_left (by simp [entC]; omega)]; rfl
  | x :: r, k + 1, j, h, hj => by
    have ih := entsC_get r k j (by simpa using h) hj
    have h2 : (entC x).length = 2 := rfl
    rw [entsC, List.getElem?_append_right (by rw [h2]; omega), h2, show (k + 1) * 2 + j - 2 = k * 2 + j by omega, ih]
    rfl
def EntsAt (w : World) (A : Option Addr) (l : List Sp.DE) : Prop := ∃ m : List (Option Addr × Nat × Sp.DE), m.map (·.2.2) = l ∧ Cells w A (entsC m) ∧ ∀ x ∈ m, Vers w x.1 x.2.2.2
theorem EntsAt.ext {w w' : World} (e : Ext w w') {A : Option Addr} {l : List Sp.DE} (h : EntsAt w A l) : EntsAt w' A l := by
  obtain ⟨m, h1, h2, h3⟩ := h
  exact ⟨m, h1, h2.ext e, fun x hx => (h3 x hx).ext e⟩
theorem EntsAt.at {w : World} {A : Option Addr} {l : List Sp.DE} (h : EntsAt w A l) (hn : 0 < l.length) : ∃ g o, A = some ⟨g, o, none⟩ ∧ ∀ k (hk : k < l.length), ∃ Av cv, w.cell? ⟨g, o + k * 2, none⟩ = some (.string (strOf (l[k]).1)) ∧ w.cell? ⟨g, o + k * 2 + 1, none⟩ = some (.slice Av (l[k]).2.length cv) ∧ Vers w Av (l[k]).2 := by
  obtain ⟨m, rfl, h2, h3⟩ := h
  have hm : (m.map (·.2.2)).length = m.length := List.length_map ..
  obtain ⟨g, o, hA, hc⟩ := h2 (by
    intro e
    have := entsC_len m
    rw [e] at this
    simp at this hn
    omega)
  refine ⟨g, o, hA, fun k hk => ?_⟩
  rw [hm] at hk
  have e0 := entsC_get m k 0 hk (by decide)
  have e1 := entsC_get m k 1 hk (by decide)
  refine ⟨m[k].1, m[k].2.1, ?_, ?_, ?_⟩
  · rw [List.getElem_map]; exact hc (k * 2) _ (by simpa [entC] using e0)
  · rw [List.getElem_map, Nat.add_assoc]; exact hc (k * 2 + 1) _ (by simpa [entC] using e1)
  · rw [List.getElem_map]; exact h3 m[k] (List.getElem_mem hk)
namespace Sp
def ofT : Option T → List DE → Option T × Int
  | o, [] => (o, 0)
  | o, e :: r => if setCode o e.1 e.2 ≠ 0 then (none, setCode o e.1 e.2) else ofT (withO o (split e.1) e.2) r
def GoodO (o : Option T) : Prop := (∀ t, o = some t → Ok t) ∧ (entriesO o).length ≤ 128
theorem setCode_ok {o : Option T} {p : Bs} {l : List Ver} (h : setCode o p l = 0) : check p = 0 ∧ leaf l = 0 ∧ (entriesO (withO o (split p) l)).length ≤ 128 := by
  unfold setCode at h
  by_cases h1 : check p = 0
  · rw [if_neg (by simpa using h1)] at h
    by_cases h2 : leaf l = 0
    · rw [if_neg (by simpa using h2)] at h
      by_cases h3 : 128 < (entriesO (withO o (split p) l)).length
      · rw [if_pos h3] at h; exact absurd h (by decide)
      · exact ⟨h1, h2, by omega⟩
    · rw [if_pos h2] at h; exact absurd h h2
  · rw [if_pos h1] at h; exact absurd h h1
theorem setCode_good {o : Option T} {p : Bs} {l : List Ver} (h : setCode o p l = 0) (ho : GoodO o) : GoodO (withO o (split p) l) := by
  obtain ⟨h1, h2, h3⟩ := setCode_ok h
  exact ⟨fun t ht => (with_ok l (fun _ => h2) (split p) o (fun n hn => List.all_eq_true.1 (check_parts h1).2.2.2 n hn) ho.1 t ht).2, h3⟩
theorem good_none : GoodO none := ⟨(fun t h => by cases h), Nat.zero_le _⟩
theorem ofT_good : ∀ (l : List DE) (o : Option T), GoodO o → GoodO (ofT o l).1
  | [], o, h => h
  | e :: r, o, h => by
    rw [ofT]
    by_cases hc : setCode o e.1 e.2 = 0
    · rw [if_neg (by simpa using hc)]; exact ofT_good r _ (setCode_good hc h)
    · rw [if_pos hc]; exact good_none
end Sp
set_option maxRecDepth 100000 in
set_option maxHeartbeats 4000000 in
theorem of_calls (l : List Sp.DE) (A : Option Addr) (cap : Nat) (w : World) (h : EntsAt w A l) (hl : l.length ≤ 1000000) (K : KeysAt w 2) (M : MaxAt w) :
    Calls Tryz.prog 40 #[.slice A l.length cap] w fun e w' => ∃ v, e = .returned (.tuple #[v, .int .i64 (Sp.ofT none l).2]) ∧ TreeAt w' v (Sp.ofT none l).1 ∧ Ext w w' := by
  have HH := Lib.hid h
  have KK := Lib.hid K
  have MM := Lib.hid M
  have tokB : True := trivial
  clear h K M
  go_enter Tryz.func40, Tryz.ntmps40
  go_wp2_with (have _t := tokB; ((with_reducible refine at_box (t := 153) rfl ?_); refine box_new rfl (cs := #[.pointer none]) (t := 153) (by first | (go_simp; done) | (go_simp; rfl)) ?_; intro g2 w2 hg2 hx2 hb2; have X2 := Lib.hid hx2; have B2 := Lib.hid (show Ext w w2 from hb2); clear tokB _t hx2 hb2 hg2))
  go_loopw [4, 13] (fun v4 v13 wr => ∃ (k : Nat) (o : Option Sp.T) (v : Value), k ≤ l.length ∧ v = v4 ∧ v13 = .int .i64 k ∧ TreeAt wr v o ∧ Sp.GoodO o ∧ Sp.ofT o (l.drop k) = Sp.ofT none l ∧ Ext w wr) (fun _ v13 _ => l.length - (intOf v13).toNat)
  case atStart => exact ⟨0, none, _, Nat.zero_le _, rfl, rfl, .inr ⟨g2, _, rfl, X2.out, .inl ⟨rfl, rfl⟩⟩, Sp.good_none, rfl, B2.out⟩
  case round =>
    obtain ⟨k, o, v, hk2, rfl, rfl, ht, hgo, hof, hb⟩ := hrel
    have HT := Lib.hid ht
    have GO := Lib.hid hgo
    have HB := Lib.hid hb
    by_cases hlt : k < l.length
    · have OF := Lib.hid (show Sp.ofT o (l[k] :: l.drop (k + 1)) = Sp.ofT none l by rw [← List.drop_eq_getElem_cons hlt]; exact hof)
      obtain ⟨eb, eo, rfl, he⟩ := HH.out.at (by omega)
      obtain ⟨Av, cv, c0, c1, hv⟩ := he k hlt
      obtain ⟨x, hx⟩ : ∃ x, x = l[k] := ⟨_, rfl⟩
      rw [← hx] at c0 c1 hv OF
      have d0 := HB.out.cell c0
      have d1 := HB.out.cell c1
      have HV := Lib.hid hv
      have b1 : (k : Int) < (l.length : Int) := by omega
      have tokA : True := trivial
      have HX := Lib.hid hx
      clear c0 c1 hv hof ht hgo hb he hx
      go_wp2_with (have _t := tokA; ((with_reducible refine at_alloc (t := 43) rfl ?_); refine box_new rfl (cs := #[.string ⟨#[]⟩, .slice none 0 0]) (t := 43) (by first | (go_simp; done) | (go_simp; rfl)) ?_; intro g3 w3 hg3 hx3 hb3; have X3 := Lib.hid hx3; have B3 := Lib.hid (show Ext wr w3 from hb3); have G3 := Lib.hid hg3; have k0 := (hx3.cell 0).trans rfl; have k1 := (hx3.cell 1).trans rfl; have k2 := hx3.frozen 0; have k3 := hx3.frozen 1; clear tokA _t hx3 hb3 hg3))
      obtain ⟨w5, hw5⟩ : ∃ w5, w5 = (w3.setCell ⟨g3, 0, none⟩ (.string (strOf x.1))).setCell ⟨g3, 1, none⟩ (.slice Av x.2.length cv) := ⟨_, rfl⟩
      have B5 := Lib.hid (show Ext wr w5 by rw [hw5]; exact (B3.out.setCell G3.out _).setCell G3.out _)
      rw [← hw5]
      clear hw5 k0 k1 k2 k3 d0 d1
      have E5 := Lib.hid (HB.out.trans B5.out)
      refine (set_calls o v x.1 x.2 Av cv w5 (HT.out.ext B5.out) GO.out.1 (Nat.le_trans GO.out.2 (by decide)) (HV.out.ext E5.out) (KK.out.ext E5.out) (max_kept MM.out E5.out)).mono ?_
      rintro e w6 ⟨v6, rfl, h0, h1, hb6⟩
      have E6 := Lib.hid (E5.out.trans hb6)
      by_cases hc : Sp.setCode o x.1 x.2 = 0
      · have T6 := Lib.hid (h0 hc)
        have G6 := Lib.hid (Sp.setCode_good hc GO.out)
        have OF2 := Lib.hid (show Sp.ofT (Sp.withO o (Sp.split x.1) x.2) (l.drop (k + 1)) = Sp.ofT none l by
          have := OF.out
          rw [Sp.ofT, if_neg (by simpa using hc)] at this
          exact this)
        rw [hc]
        clear h0 h1 hb6 hc
        go_wp2
        refine ⟨⟨k + 1, _, v6, by omega, rfl, by go_num, T6.out, G6.out, OF2.out, E6.out⟩, by simp [intOf]; omega⟩
      · have R6 := Lib.hid (h1 hc)
        have OF2 := Lib.hid (show Sp.ofT none l = (none, Sp.setCode o x.1 x.2) by
          have := OF.out
          rw [Sp.ofT, if_pos hc] at this
          exact this.symm)
        have c1 : (Sp.setCode o x.1 x.2 == 0) = false := by rw [beq_eq_false_iff_ne]; exact hc
        clear h0 h1 hb6 hc
        go_wp2
        go_ret2
        rw [OF2.out]
        exact ⟨_, rfl, .inl ⟨rfl, rfl⟩, E6.out⟩
    · obtain rfl : k = l.length := by omega
      rw [List.drop_length] at hof
      have OF2 := Lib.hid (show (o, (0 : Int)) = Sp.ofT none l from hof)
      clear hof ht hgo hb
      go_wp2
      go_ret2
      rw [← OF2.out]
      exact ⟨v, rfl, HT.out, HB.out⟩
end Go.Proofs.YtmlfnidckfeebaaGreatDoor
namespace Go.Proofs.YtmlfnidckfeebaaGreatDoor
open Go.RowKit Go.Shelf
attribute [local go_sem] yUpon strOf_toList
set_option maxRecDepth 100000 in
set_option maxHeartbeats 1000000 in
theorem copyck_calls (b : Nat) (w : World) (h0 : w.cell? ⟨b, 0, none⟩ = some (.pointer (some ⟨b, 0, none⟩))) :
    Calls Tryz.prog 280 #[.pointer (some ⟨b, 0, none⟩)] w fun e w' => e = .returned (.tuple #[]) ∧ w = w' := by
  obtain ⟨j, hj, _⟩ := info_of (t := 174) (n := 2) (by kernel_rfl)
  go_enter Tryz.func280, Tryz.ntmps280
  go_wp2_with fail
  rw [Lib.run_neq_ptr_same _ _ Tryz.underlying171 hj]
  go_wp2_with fail
  go_end0
  exact ⟨rfl, rfl⟩
def BldAt (B g : Nat) (l : Sp.Bs) (w : World) : Prop :=
  B ≤ g ∧ ∃ v, isBlk w g 174 #[.pointer (some ⟨g, 0, none⟩), v] ∧ w.ownsRow B 5 1 v l.length (l.map byteV) ∧ v.ownBlock ≠ some g
set_option maxRecDepth 100000 in
set_option maxHeartbeats 1000000 in
theorem wstr_calls (B g : Nat) (l s : Sp.Bs) (w : World) (h : BldAt B g l w) (hl : l.length ≤ 1000000) (hs : s.length ≤ 1000000) (hBw : B ≤ w.heap.size) :
    Calls Tryz.prog 248 #[.pointer (some ⟨g, 0, none⟩), .string (strOf s)] w fun e' w' => (∃ n, e' = .returned (.tuple #[.int .i64 n, .nilIface])) ∧ BldAt B g (l ++ s) w' ∧ Below B w w' := by
  have hsz : (strOf s).size = s.length := strOf_size s
  obtain ⟨hB, v, hblk, hown, hne⟩ := h
  obtain ⟨i0, hi, hz0, hz1, hz2⟩ := info_parts (show (Tryz.prog.info? 5).map (fun i => (i.zero, i.size, i.bytes)) = some (some (.int .u8 0), 1, 1) by kernel_rfl)
  have c0 := (hblk.cell 0).trans rfl
  have c1 := (hblk.cell 1).trans rfl
  have C := Lib.hid (copyck_calls g w c0)
  have HK := Lib.hid hblk
  have HS := Lib.hid hsz
  clear hblk hsz
  go_enter Tryz.func248, Tryz.ntmps248
  go_wp2_with (first
    | (go_at_call 280; refine C.out.mono ?_; rintro e' w1 ⟨rfl, rfl⟩)
    | (refine Lib.wpList_append_own_string _ rfl _ _ 172 9 rfl B 5 i0 Tryz.underlying172 Tryz.underlying9 hi hz0 hz1 hz2 _ _ _ rfl hown (strOf s) rfl ?c3 ?c4 ?c5 ?_))
  case c3 => unfold maxLen; rw [HS.out]; omega
  case c4 => rw [HS.out]; omega
  case c5 => exact hBw
  intro v' w2 hown' hgrow _
  have hb2 : isBlk w2 g 174 #[.pointer (some ⟨g, 0, none⟩), v] := (hgrow.block g HK.out.lt (fun e => hne e.symm)).trans HK.out
  have hbl2 : Below B w w2 := (Below.refl _ _).grown hgrow hBw (fun k e => hown.lt k e |>.1)
  obtain ⟨x2, m2, k2, rfl⟩ : ∃ x m k, v' = .slice x m k := own_slice hown'
  have d1 := (hb2.cell 1).trans rfl
  have g1 := hb2.frozen 1
  clear c0 c1
  go_wp2_with fail
  go_ret2
  have HNE : (Value.slice x2 m2 k2).ownBlock ≠ some g := by
    intro e2
    rcases hown'.2 with ⟨hn, _⟩ | ⟨g', cap', cur, hv, _, hgg, _⟩
    · rw [hn] at e2; cases e2
    · rw [hv] at e2
      have e3 : g' = g := by simpa [Value.ownBlock] using e2
      rw [e3, show w2.heap[g]? = _ from hb2] at hgg
      injection hgg with hgg
      injection hgg with _ h5
      exact absurd h5 (by decide)
  refine ⟨⟨_, rfl⟩, ⟨hB, _, hb2.put 1 _ rfl, ?_, HNE⟩, hbl2.setCell hB _⟩
  have e1 : (strOf s).data.toList = s := by simp [strOf]
  rw [List.length_append, List.map_append, ← HS.out]
  rw [strCells_eq, e1] at hown'
  exact own_far hown' HNE _
namespace Sp
theorem joinP_snoc : ∀ (a : List Bs) (b : Bs), a ≠ [] → joinP (a ++ [b]) = joinP a ++ 47 :: b
  | [], _, h => absurd rfl h
  | [x], b, _ => rfl
  | x :: y :: r, b, _ => by
    have ih := joinP_snoc (y :: r) b (by simp)
    show x ++ 47 :: joinP ((y :: r) ++ [b]) = (x ++ 47 :: joinP (y :: r)) ++ 47 :: b
    rw [ih]; simp
theorem joinP_len : ∀ (a : List Bs) (n : Nat), (∀ s ∈ a, s.length ≤ n) → (joinP a).length ≤ a.length * (n + 1)
  | [], _, _ => Nat.zero_le _
  | [x], n, h => by
    have := h x (List.mem_cons_self ..)
    show x.length ≤ _
    simp; omega
  | x :: y :: r, n, h => by
    have ih := joinP_len (y :: r) n (fun s hs => h s (List.mem_cons_of_mem _ hs))
    have := h x (List.mem_cons_self ..)
    show (x ++ 47 :: joinP (y :: r)).length ≤ _
    rw [List.length_append, List.length_cons, List.length_cons, Nat.add_mul]
    omega
end Sp
set_option maxRecDepth 100000 in
set_option maxHeartbeats 4000000 in
theorem join_calls (l : List Sp.Bs) (A : Option Addr) (cap : Nat) (w : World) (h : Nams w A l) (hc : l.length ≤ cap) (hl : l.length ≤ 100) (hs : ∀ s ∈ l, s.length ≤ 100) :
    Calls Tryz.prog 228 #[.slice A l.length cap, .string ⟨#[47]⟩] w fun e w' => e = .returned (.string (strOf (Sp.joinP l))) ∧ Ext w w' := by
  have HN := Lib.hid h
  have HS := Lib.hid hs
  have z1 : (⟨#[47]⟩ : ByteArray).size = 1 := rfl
  clear h hs
  go_enter Tryz.func228, Tryz.ntmps228
  by_cases h0 : l = []
  · subst h0
    have e0 : (([] : List Sp.Bs).length : Int) = 0 := rfl
    go_wp2
    go_ret
    exact ⟨rfl, Ext.refl _⟩
  · have hpos : 0 < l.length := by
      cases l with
      | nil => exact absurd rfl h0
      | cons a r => simp
    obtain ⟨g, o, rfl, hat⟩ := HN.out.at hpos
    have HAT := Lib.hid hat
    have c0 := hat 0 hpos
    rw [Nat.add_zero] at c0
    obtain ⟨x0, hx0⟩ : ∃ x0, x0 = l[0] := ⟨_, rfl⟩
    rw [← hx0] at c0
    have HX0 := Lib.hid hx0
    have HNE := Lib.hid h0
    clear hat h0 hx0
    by_cases h1 : l.length = 1
    · have n1 : ((l.length : Int) == 1) = true := by rw [h1]; rfl
      have n0 : ((l.length : Int) == 0) = false := by rw [h1]; rfl
      have hj : Sp.joinP l = x0 := by
        have hx := HX0.out
        match l, h1 with
        | [a], _ => exact hx.symm
      have HJ := Lib.hid hj
      clear hj h1
      go_wp2
      go_ret
      rw [HJ.out]
      exact ⟨rfl, Ext.refl _⟩
    · have n1 : ((l.length : Int) == 1) = false := beq_eq_false_iff_ne.2 (by omega)
      have n0 : ((l.length : Int) == 0) = false := beq_eq_false_iff_ne.2 (by omega)
      have n2 : 2 ≤ l.length := by omega
      have hdv : ¬ (9223372036854775807 / ((l.length : Int) - 1) ≤ 1) := by
        have e : (2 : Int) * ((l.length : Int) - 1) ≤ 9223372036854775807 := by omega
        have := (Int.le_ediv_iff_mul_le (c := (l.length : Int) - 1) (by omega)).2 e
        omega
      have HC0 := Lib.hid c0
      clear h1 c0
      go_wp2_with fail
      go_loopw [5, 41] (fun v5 v41 wr => ∃ k n : Nat, k ≤ l.length ∧ n ≤ 100 + 100 * k ∧ v5 = .int .i64 n ∧ v41 = .int .i64 k ∧ w = wr) (fun _ v41 _ => l.length - (intOf v41).toNat)
      case atStart => exact ⟨0, l.length - 1, Nat.zero_le _, by omega, by go_num, rfl, rfl⟩
      case round =>
        obtain ⟨k, n, hk, hn, rfl, rfl, rfl⟩ := hrel
        by_cases hlt : k < l.length
        · have ck := HAT.out k hlt
          obtain ⟨x, hx⟩ : ∃ x, x = l[k] := ⟨_, rfl⟩
          rw [← hx] at ck
          have xl : (strOf x).size ≤ 100 := by rw [strOf_size, hx]; exact HS.out _ (List.getElem_mem hlt)
          have b1 : (k : Int) < (l.length : Int) := by omega
          clear hx
          go_wp2
          refine ⟨⟨k + 1, n + (strOf x).size, by omega, by omega, by go_num, by go_num, trivial⟩, by simp [intOf]; omega⟩
        · obtain rfl : k = l.length := by omega
          have n11 : n ≤ 11000 := by omega
          go_wp2_with fail
          refine (Tryz.Builder_Grow_fresh w.heap.size w.heap.size n _ (Nat.le_refl _) (heap_alloc_new w _) (by simp) (by omega)).mono ?_
          rintro e w1 ⟨rfl, h1, hb1⟩
          have X1 := Lib.hid (show BldAt w.heap.size w.heap.size [] w1 from ⟨h1.1, h1.2⟩)
          have B1 := Lib.hid (show Ext w w1 from ((Below.refl w.heap.size w).alloc (Nat.le_refl _) _).trans hb1)
          have c0 := B1.out.cell HC0.out
          have L0 := Lib.hid (show x0.length ≤ 1000000 by rw [HX0.out]; exact Nat.le_trans (HS.out _ (List.getElem_mem hpos)) (by decide))
          clear h1 hb1
          go_wp2_with fail
          refine (wstr_calls w.heap.size w.heap.size [] x0 w1 X1.out (by simp) L0.out B1.out.size).mono ?_
          rintro e w2 ⟨⟨n2, rfl⟩, hx2, hb2⟩
          have X2 := Lib.hid (show BldAt w.heap.size w.heap.size (Sp.joinP (l.take 1)) w2 by
            have e1 : l.take 1 = [x0] := by
              rw [HX0.out]
              cases l with
              | nil => exact absurd rfl HNE.out
              | cons a r => rfl
            rw [e1]; exact hx2)
          have B2 := Lib.hid (show Ext w w2 from Below.trans B1.out hb2)
          clear hx2 hb2 c0
          go_wp2_with fail
          go_loopw [65] (fun v65 wr => ∃ k : Nat, k + 1 ≤ l.length ∧ v65 = .int .i64 k ∧ BldAt w.heap.size w.heap.size (Sp.joinP (l.take (k + 1))) wr ∧ Ext w wr) (fun v65 _ => l.length - 1 - (intOf v65).toNat)
          case atStart => exact ⟨0, hpos, rfl, X2.out, B2.out⟩
          case round =>
            obtain ⟨k, hk, rfl, hbx, hbw⟩ := hrel
            have XB := Lib.hid hbx
            have XW := Lib.hid hbw
            have JL := Lib.hid (show (Sp.joinP (l.take (k + 1))).length ≤ 900000 by
              have := Sp.joinP_len (l.take (k + 1)) 100 (fun s hs => HS.out s (List.mem_of_mem_take hs))
              rw [List.length_take] at this
              have h2 : min (k + 1) l.length * (100 + 1) ≤ 100 * 101 := Nat.mul_le_mul_right _ (by omega)
              omega)
            clear hbx hbw
            by_cases hlt2 : k + 1 < l.length
            · have ck := XW.out.cell (HAT.out (k + 1) hlt2)
              have ck2 : wr.cell? ⟨g, o + 1 + k, none⟩ = some (.string (strOf l[k + 1])) := by rw [show o + 1 + k = o + (k + 1) by omega]; exact ck
              obtain ⟨x, hx⟩ : ∃ x, x = l[k + 1] := ⟨_, rfl⟩
              rw [← hx] at ck2
              have LX := Lib.hid (show x.length ≤ 100 by rw [hx]; exact HS.out _ (List.getElem_mem hlt2))
              have JX := Lib.hid (show Sp.joinP (l.take (k + 1 + 1)) = Sp.joinP (l.take (k + 1)) ++ [47] ++ x by
                rw [List.take_succ_eq_append_getElem hlt2, Sp.joinP_snoc _ _ (by intro e; have := congrArg List.length e; rw [List.length_take, List.length_nil] at this; omega), hx]
                simp)
              have b1 : (k : Int) < (l.length : Int) - 1 := by omega
              clear ck hx
              go_wp2_with fail
              have WS := wstr_calls w.heap.size w.heap.size _ [47] wr XB.out (Nat.le_trans JL.out (by decide)) (by decide) XW.out.size
              rw [show strOf [47] = ⟨#[47]⟩ from rfl] at WS
              refine WS.mono ?_
              rintro e w3 ⟨⟨n3, rfl⟩, hx3, hb3⟩
              have X3 := Lib.hid hx3
              have B3 := Lib.hid (show Ext w w3 from Below.trans XW.out hb3)
              clear hx3 hb3
              go_wp2_with fail
              refine (wstr_calls w.heap.size w.heap.size _ x w3 X3.out (by rw [List.length_append]; have := JL.out; simp; omega) (Nat.le_trans LX.out (by decide)) B3.out.size).mono ?_
              rintro e w4 ⟨⟨n4, rfl⟩, hx4, hb4⟩
              rw [← JX.out] at hx4
              have X4 := Lib.hid hx4
              have B4 := Lib.hid (show Ext w w4 from Below.trans B3.out hb4)
              clear hx4 hb4 WS
              go_wp2
              exact ⟨⟨k + 1, by omega, by go_num, X4.out, B4.out⟩, by simp [intOf]; omega⟩
            · have hke : l.take (k + 1) = l := List.take_of_length_le (by omega)
              have XF := Lib.hid (show BldAt w.heap.size w.heap.size (Sp.joinP l) wr by have := XB.out; rwa [hke] at this)
              have b1 : ¬ (k : Int) < (l.length : Int) - 1 := by omega
              clear hke
              go_wp2_with fail
              refine (Tryz.Builder_String_any w.heap.size w.heap.size (Sp.joinP l) wr (.inr ⟨XF.out.1, by obtain ⟨v, h1, h2, h3⟩ := XF.out.2; exact ⟨v, h1, by rw [Lib.byteCells_length]; exact h2, h3⟩⟩) XW.out.size).mono ?_
              rintro e w5 ⟨rfl, hb5⟩
              have B5 := Lib.hid (show Ext w w5 from Below.trans XW.out hb5)
              clear hb5
              go_wp2
              go_ret
              exact ⟨rfl, B5.out⟩
end Go.Proofs.YtmlfnidckfeebaaGreatDoor
namespace Go.Proofs.YtmlfnidckfeebaaGreatDoor
open Go.RowKit
section
variable {P : Program} {md : Region.Mode} {ops : Array Oper} {T : World → Prop}
def wpSeqT (P : Program) (ops : Array Oper) (T : World → Prop) (Q : Exit → Act → World → Prop) : Nat → List Oper → Act → World → Prop
  | 0, l, a, w => wpList P ops (goesOn Q) l a w
  | _ + 1, [], _, _ => False
  | n + 1, o :: l, a, w => wpList P ops (fun e a w => e = .normal ∧ T w ∧ wpSeqT P ops T Q n l a w) [o] a w
theorem seqT_zero {Q : Exit → Act → World → Prop} {l : List Oper} {a : Act} {w : World} (h : wpList P ops (goesOn Q) l a w) : wpSeqT P ops T Q 0 l a w := h
theorem seqT_succ {Q : Exit → Act → World → Prop} {n : Nat} {o : Oper} {l : List Oper} {a : Act} {w : World} (h : ∀ Q' : Exit → Act → World → Prop, (∀ a w, T w → wpSeqT P ops T Q n l a w → Q' .normal a w) → wpList P ops Q' [o] a w) : wpSeqT P ops T Q (n + 1) (o :: l) a w := h _ fun _ _ h1 h2 => ⟨rfl, h1, h2⟩
theorem wpOp_of_one {Q Q2 : Exit → Act → World → Prop} {K : Act → World → Prop} {i : Nat} {o : Oper} {a : Act} {w : World} (hi : ops[i]? = some o) (hQ : ∀ e a w, Q2 e a w → e = .normal) (hK : ∀ a w, Q2 .normal a w → K a w) (hh : wpList P ops Q2 [o] a w) : wpOp P ops Q i K a w := by
  unfold wpOp
  simp only [hi]
  unfold wpList at hh
  by_cases hwt : Region.wanted o (yielded ops a.tmps) = true
  · rw [if_pos hwt] at hh ⊢
    rcases hh with hh | ⟨_, hh⟩
    · left
      unfold Oper.wp at hh ⊢
      generalize (execOp a.eval o).run P w = r at hh ⊢
      cases r with
      | ok x w2 =>
        cases x with
        | value u => exact hK _ _ hh
        | skip => exact hK _ _ hh
        | defer d => exact hK _ _ hh
        | enter f args =>
          refine Calls.mono hh fun e w3 he => ?_
          cases e with
          | returned u => exact hK _ _ he
          | panicked c => cases hQ _ _ _ he
          | outgrown => obtain ⟨_, _, h⟩ := he; cases hQ _ _ _ h
        | row row args => exact Rows.mono hh fun u w3 he => hK _ _ he
        | _ => exact hh
      | halt x w2 =>
        cases x with
        | panic u => cases hQ _ _ _ hh
        | _ => exact hh
    · obtain ⟨_, _, h⟩ := hh; cases hQ _ _ _ h
  · rw [if_neg hwt] at hh ⊢
    exact hK _ _ hh
theorem wpAnyT_of_seqT {m : Nat} {Q : Exit → Act → World → Prop} : ∀ (n : Nat) (l : List Oper) (k : Nat) (listed : Array Bool) (a : Act) (w : World), k + n = m → (∀ j, l[j]? = ops[k + j]?) →
    Region.seqB md ops l.length k listed = true → wpSeqT P ops T Q n l a w → wpAnyT P md ops T m (goesOn Q) l.length listed a w
  | 0, l, k, listed, a, w, hm, hl, hB, h => wpAnyT_of_seq l k listed a w (by omega) hl hB h
  | n + 1, [], _, _, _, _, _, _, _, h => h.elim
  | n + 1, o :: l, k, listed, a, w, hm, hl, hB, h => by
    have h0 : ops[k]? = some o := by simpa using (hl 0).symm
    simp only [List.length_cons, Region.seqB, Bool.and_eq_true, decide_eq_true_eq] at hB
    refine ⟨fun h1 => (by rw [hB.1] at h1; cases h1), fun i hi => ?_⟩
    rw [hB.1] at hi
    obtain rfl : i = k := by simpa using hi
    exact wpOp_of_one h0 (fun e a w h => h.1) (fun a2 w2 h2 => ⟨fun _ => h2.2.1, wpAnyT_of_seqT n l (i + 1) _ a2 w2 (by omega) (fun j => by have := hl (j + 1); simpa [Nat.add_assoc, Nat.add_comm 1 j] using this) hB.2 h2.2.2⟩) h
def lexSeqB (md : Region.Mode) (ops : Array Oper) (p m : Nat) : Bool :=
  Region.noSelect ops && decide (p ≤ m) && decide (m < ops.size) && sinkFrom md ops 0 m && behindB md ops m && headB md ops (Region.seqB md ops (ops.size - p) p) p 0 (Array.replicate ops.size false)
theorem wpAny_region_seqT (T : World → Prop) {Q : Exit → Act → World → Prop} {a : Act} {w : World} {l : List Oper} (p m : Nat) (hB : lexSeqB .any l.toArray p m = true)
    (hT : T w.drew) (h : wpFloatT P l.toArray T (fun a => wpSeqT P l.toArray T Q (m - p) (l.drop p) a w.drew) (l.take p) a) : wpAny P .any l.toArray (goesOn Q) l.toArray.size (Array.replicate l.toArray.size false) a w.drew := by
  simp only [lexSeqB, Bool.and_eq_true, decide_eq_true_eq] at hB
  obtain ⟨⟨⟨⟨⟨hsel, hpm⟩, hms⟩, hs⟩, hc⟩, hlex⟩ := hB
  have hms' : m < l.length := by simpa using hms
  have hpl : (l.take p).length = p := by simp; omega
  have hdl : (l.drop p).length = l.toArray.size - p := by simp
  have inv0 : ∀ k, HeadInv .any l.toArray k (Array.replicate l.toArray.size false) := fun k =>
    ⟨by simp, fun j oj _ hl => (by rw [getD_replicate_false] at hl; cases hl), fun t _ ht => getD_in (by simpa using ht) (getD_replicate_false _ _)⟩
  refine wpAny_of_T (T := T) (m := m) _ _ _ _ ?_
  have pre := wpAnyT_of_pre (P := P) (T := T) (md := .any) (ops := l.toArray) (n := p) (m := m) (g := l.toArray.size - p) (B := Region.seqB .any l.toArray (l.toArray.size - p) p) (Q := goesOn Q) (fun c a w h => by cases h.1) hsel hpm hms
    (fun ls hi i hin hun t ht => tail_waits3 hs hc hms hi _ i rfl (Nat.zero_le _) hin hun t ht)
    (l.take p) 0 _ a w.drew (fun j hj => by have hj' : j < p := by rw [hpl] at hj; exact hj
                                            simp [hj']) (by rw [hpl]; omega) hT (inv0 p) (inv0 m) (fun j hj => absurd hj (Nat.not_lt_zero j)) (by rw [hpl]; exact hlex) ?_
  · rw [hpl, show l.toArray.size - p + p = l.toArray.size by omega] at pre
    exact pre
  · refine floatT_mono (fun a' hK => ?_) _ _ h
    intro listed' _ _ hB'
    have := wpAnyT_of_seqT (P := P) (T := T) (md := .any) (ops := l.toArray) (m := m) (Q := Q) (m - p) (l.drop p) p listed' a' w.drew (by omega) (fun j => by simp [List.getElem?_drop]) (by rw [hdl]; exact hB') hK
    rwa [hdl] at this
theorem wp_region_seqT (T : World → Prop) {id : Nat} {Q : Exit → Act → World → Prop} {a : Act} {w : World} {l : List Oper} (p m : Nat) (hm : P.follows .mixedOrders = true) (hB : lexSeqB .any l.toArray p m = true)
    (hT : T w.drew) (h : wpFloatT P l.toArray T (fun a => wpSeqT P l.toArray T Q (m - p) (l.drop p) a w.drew) (l.take p) a) : (Code.region id l.toArray true).wp P Q a w := by
  exact Code.wp_mono (Q := goesOn Q) (fun e a w h => by obtain ⟨rfl, h⟩ := h; exact h) (wp_region_any hm (wpAny_region_seqT T p m hB hT h))
end
abbrev wideR (r : Option Nat) : Fence := { Fence.wide with round := r }
theorem callsIn_of {r : Option Nat} {n : Nat} {P : Program} {f : FuncId} {args : Array Value} {w : World} {R : Ending → World → Prop} (h : Calls P f args w R) : CallsIn (wideR r) n P f args w R :=
  (callsIn_wide (n := n)).2 h
theorem rowsIn_of {r : Option Nat} {n : Nat} {P : Program} {row : String} {args : Array Value} {w : World} {R : Value → World → Prop} (h : Rows P row args w R) : RowsIn (wideR r) n P row args w R :=
  fun c cs _ => let ⟨v, w', r, s⟩ := h c cs; ⟨v, w', r, stepsIn_wide.2 s⟩
def noDefer (ops : Array Oper) : Bool := ops.toList.all fun o => match o.op with | .defer _ => false | _ => true
theorem noDefer_spec {ops : Array Oper} (h : noDefer ops = true) {i : Nat} {o : Oper} (hi : ops[i]? = some o) : ∀ c, o.op ≠ .defer c := by
  intro c e
  have hm : o ∈ ops.toList := List.mem_of_getElem? (i := i) (by simpa using hi)
  have := List.all_eq_true.1 h o hm
  rw [e] at this
  cases this
section
variable {P : Program} {md : Region.Mode} {ops : Array Oper} {S : World → Prop} {r : Option Nat} {n : Nat}
theorem wpOpIn_of_wpOp {Q Q' : Exit → Act → World → Prop} {i : Nat} {K K' : Act → World → Prop} {a : Act} {w : World} (hd : noDefer ops = true) (hQ : ∀ e a w, Q e a w → e = .normal) (hK : ∀ a w, K a w → K' a w) (h : wpOp P ops Q i K a w) : wpOpIn (wideR r) n P ops Q' i K' a w := by
  unfold wpOp at h
  unfold wpOpIn
  cases hi : ops[i]? with
  | none => simp only [hi] at h ⊢; exact hK _ _ h
  | some o =>
    simp only [hi] at h ⊢
    by_cases hw : Region.wanted o (yielded ops a.tmps) = true
    · simp only [hw, if_true] at h ⊢
      rcases h with h | ⟨_, h⟩
      · refine ⟨fun f _ => trivial, ?_⟩
        rw [Oper.semAt_eq _ _ _ (noDefer_spec hd hi)]
        unfold Oper.wp at h
        generalize (execOp a.eval o).run P w = q at h ⊢
        cases q with
        | ok x w2 =>
          cases x <;> simp only [Oper.upon] at h <;> simp only [Oper.uponIn]
          case value u => exact hK _ _ h
          case skip => exact hK _ _ h
          case defer d => exact hK _ _ h
          case enter f args =>
            refine ⟨(fun h => by cases h), callsIn_of (Calls.mono h fun e w3 he => ?_)⟩
            cases e with
            | returned u => exact hK _ _ he
            | panicked c => cases hQ _ _ _ he
            | outgrown => obtain ⟨_, _, h⟩ := he; cases hQ _ _ _ h
          case row row args => exact ⟨(fun h => by cases h), rowsIn_of (Rows.mono h fun u w3 he => hK _ _ he)⟩
        | halt x w2 =>
          cases x <;> simp only [Oper.upon] at h <;> simp only [Oper.uponIn]
          case panic u => cases hQ _ _ _ h
      · obtain ⟨_, _, h⟩ := h; cases hQ _ _ _ h
    · simp only [hw, Bool.false_eq_true, if_false] at h ⊢
      exact ⟨fun f _ => trivial, hK _ _ h⟩
theorem wpAnyIn_of_wpAny {Q : Exit → Act → World → Prop} (hd : noDefer ops = true) : ∀ (fuel : Nat) (listed : Array Bool) (a : Act) (w : World), wpAny P md ops (goesOn Q) fuel listed a w → wpAnyIn (wideR r) n P md ops Q fuel listed a w
  | 0, _, _, _, h => ⟨h.1, h.2.2⟩
  | fuel + 1, _, _, _, h => ⟨fun h0 => (h.1 h0).2, fun i hi => wpOpIn_of_wpOp hd (fun _ _ _ h => h.1) (fun a w h => wpAnyIn_of_wpAny hd fuel _ a w h) (h.2 i hi)⟩
theorem wpOpIn_of_dOp {i : Nat} {a : Act} {w : World} {K : Act → Prop} {K' : Act → World → Prop} {Q' : Exit → Act → World → Prop} (hd : noDefer ops = true) (hS : S w) (h : ∀ a w, K a → S w → K' a w) (hh : dOp P ops S i K a) : wpOpIn (wideR r) n P ops Q' i K' a w :=
  wpOpIn_of_wpOp (Q := fun e _ _ => e = .normal) hd (fun _ _ _ h => h) (fun _ _ h => h) (wpOp_of_dOp hS h hh)
theorem wpAnyIn_of_headD {k g : Nat} {L : Array Bool → Act → Prop} {Q' : Exit → Act → World → Prop} (hd : noDefer ops = true) (hL : ∀ listed a w, L listed a → S w → wpAnyIn (wideR r) n P md ops Q' g listed a w) :
    ∀ (f : Nat) (listed : Array Bool) (a : Act) (w : World), S w → wpAnyLD P md ops S k L f listed a → wpAnyIn (wideR r) n P md ops Q' (f + g) listed a w
  | 0, listed, a, w, hS, h => by rw [Nat.zero_add]; exact hL _ _ _ h hS
  | f + 1, listed, a, w, hS, h => by
    rw [show f + 1 + g = (f + g) + 1 by omega]
    exact ⟨fun h0 => absurd h0 h.1, fun i hi => wpOpIn_of_dOp hd hS (fun a' w' h' hS' => wpAnyIn_of_headD hd hL f _ a' w' hS' h') (h.2 i hi).2⟩
theorem wpAnyIn_of_seq {F : Fence} {Q' : Exit → Act → World → Prop} : ∀ (l : List Oper) (k : Nat) (listed : Array Bool) (a : Act) (w : World), (∀ j, l[j]? = ops[k + j]?) →
    Region.seqB md ops l.length k listed = true → wpListIn F n P ops Q' l a w → wpAnyIn F n P md ops Q' l.length listed a w
  | [], _, _, _, _, _, hB, h => ⟨by simpa [Region.seqB] using hB, h⟩
  | o :: l, k, listed, a, w, hl, hB, h => by
    have h0 : ops[k]? = some o := by simpa using (hl 0).symm
    simp only [List.length_cons, Region.seqB, Bool.and_eq_true, decide_eq_true_eq] at hB
    refine ⟨fun h1 => (by rw [hB.1] at h1; cases h1), fun i hi => ?_⟩
    rw [hB.1] at hi
    have hik : i = k := by simpa using hi
    subst hik
    have hw : wpOpIn F n P ops Q' i (wpListIn F n P ops Q' l) a w := by unfold wpOpIn; simp only [h0]; exact h
    exact wpOpIn_mono (fun a' w' h' => wpAnyIn_of_seq l (i + 1) _ a' w' (fun j => by have := hl (j + 1); simpa [Nat.add_assoc, Nat.add_comm 1 j] using this) hB.2 h') hw
theorem wpIn_region_det_tail (S : World → Prop) {id : Nat} {Q : Exit → Act → World → Prop} {a : Act} {w : World} {l : List Oper} (m : Nat) (hm : P.follows .mixedOrders = true) (hB : Region.lexTailB .any l.toArray m = true) (hd : noDefer l.toArray = true)
    (hS : S w.drew) (h : wpDet P l.toArray S (fun a' => ∀ w', S w' → wpListIn (wideR r) n P l.toArray Q (l.drop m) a' w') (l.take m) a) : (Code.region id l.toArray true).wpIn (wideR r) n P Q a w := by
  simp only [Region.lexTailB, Bool.and_eq_true, decide_eq_true_eq] at hB
  obtain ⟨⟨⟨⟨hsel, hn⟩, hs⟩, hc⟩, hlex⟩ := hB
  have hn' : m < l.length := by simpa using hn
  have htl : (l.take m).length = m := by simp; omega
  have hdl : (l.drop m).length = l.toArray.size - m := by simp
  have inv0 : HeadInv .any l.toArray m (Array.replicate l.toArray.size false) :=
    ⟨by simp, fun j oj _ hl => (by rw [getD_replicate_false] at hl; cases hl), fun t _ ht => getD_in (by simpa using ht) (getD_replicate_false _ _)⟩
  have H := wpAnyLD_lex (S := S) (md := .any) (B := Region.seqB .any l.toArray (l.toArray.size - m) m) (fun listed h => seqB_ready h) hsel (fun listed inv i hi hun t ht => tail_waits hs hc hn inv _ i rfl hi hun t ht) (l.take m) 0 _ a (fun j hj => by
    have hj' : j < m := by rw [htl] at hj; exact hj
    simp [hj']) (by simpa using htl) inv0 (by rw [htl]; have := headB_eq .any l.toArray (l.toArray.size - m) m 0 (Array.replicate l.toArray.size false); rw [Nat.zero_add] at this; rw [this]; exact hlex) h
  refine wpIn_region_any hm ?_
  have := wpAnyIn_of_headD (S := S) (Q' := Q) (r := r) (n := n) (g := l.toArray.size - m) hd (fun listed a' w' hL hS' => by
    have := wpAnyIn_of_seq (F := wideR r) (n := n) (md := .any) (Q' := Q) (l.drop m) m listed a' w' (fun j => by simp [List.getElem?_drop]) (by rw [hdl]; exact hL.1) (hL.2 w' hS')
    rwa [hdl] at this) _ _ _ _ hS H
  rw [htl, show m + (l.toArray.size - m) = l.toArray.size by omega] at this
  exact this
theorem wpIn_region_seqT (T : World → Prop) {id : Nat} {Q : Exit → Act → World → Prop} {a : Act} {w : World} {l : List Oper} (p m : Nat) (hm : P.follows .mixedOrders = true) (hB : lexSeqB .any l.toArray p m = true) (hd : noDefer l.toArray = true)
    (hT : T w.drew) (h : wpFloatT P l.toArray T (fun a => wpSeqT P l.toArray T Q (m - p) (l.drop p) a w.drew) (l.take p) a) : (Code.region id l.toArray true).wpIn (wideR r) n P Q a w := by
  refine wpIn_region_any hm (wpAnyIn_of_wpAny hd _ _ _ _ ?_)
  exact wpAny_region_seqT T p m hB hT h
end
end Go.Proofs.YtmlfnidckfeebaaGreatDoor
