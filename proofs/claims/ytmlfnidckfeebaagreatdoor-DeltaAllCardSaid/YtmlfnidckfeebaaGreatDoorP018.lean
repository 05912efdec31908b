/- Walks: a tree with a leaf at a path; how many paths it has. Walks: the tree of some entries. Walks: strings.Join of a path's names. A law for a region that draws its order: first operations that tell one value in every world of a kind T, and may come late; then a forced sequence, the first so many of which stay in T. A range over a function that tells a list: what its iterator reads stays while the body writes blocks of some types. What a tree in memory lists, and where: plain. Walks: what stands at a directory of a tree: its node, its leaf. Walks: the node of a directory of a tree. -/
import Derived.RegionIn
import Derived.Deep.Slices
import Derived.Test.YtmlfnidckfeebaaGreatDoorP017
namespace Go.Proofs.YtmlfnidckfeebaaGreatDoor
open Go.RowKit Go.Shelf
attribute [local go_sem] yUpon
abbrev MaxAt (w : World) : Prop := ∃ m, w.cell? ⟨1, 0, none⟩ = some (.int .i64 m)
namespace Sp
def setCode (o : Option T) (p : Bs) (l : List Ver) : Int := if check p ≠ 0 then check p else if leaf l ≠ 0 then leaf l else if 128 < (entriesO (withO o (split p) l)).length then 4 else 0
theorem withO_getD : ∀ (o : Option T) (ps : List Bs) (l : List Ver), withO (some (o.getD .nil)) ps l = withO o ps l
  | none, [], _ => rfl
  | none, _ :: _, _ => rfl
  | some _, [], _ => rfl
  | some _, _ :: _, _ => rfl
theorem getD_size (o : Option T) : sizeT (o.getD .nil) = (entriesO o).length := by
  cases o with
  | none => rfl
  | some t => exact sizeT_len t
end Sp
set_option maxRecDepth 100000 in
set_option maxHeartbeats 4000000 in
theorem len_calls (o : Option Sp.T) (v : Value) (w : World) (h : TreeAt w v o) (K : KeysAt w 2) :
    Calls Tryz.prog 113 #[v] w fun e w' => e = .returned (.int .i64 (Sp.entriesO o).length) ∧ Ext w w' := by
  have RC := Lib.hid (root_calls o v w h K)
  have GS := Lib.hid (Sp.getD_size o)
  clear h K
  go_enter Tryz.func113, Tryz.ntmps113
  go_wp2_with fail
  refine RC.out.mono ?_
  rintro e w1 ⟨g, rfl, hi, hb⟩
  have f3 := hi.cells.1
  rw [GS.out] at f3
  clear hi
  go_wp2
  go_ret
  exact ⟨rfl, hb⟩
/-- Texts that a call has told, as names. -/
theorem ToldStrs.nams {w w' : World} {l : List Sp.Bs} {e : Ending} (h : ToldStrs w l e w') : ∃ A cap, e = .returned (.slice A l.length cap) ∧ l.length ≤ cap ∧ Nams w' A l ∧ Ext w w' := by
  obtain ⟨hb, ⟨rfl, rfl⟩ | ⟨g, cap, L, h0, hc, rfl, hL, hs, hg⟩⟩ := h
  · exact ⟨none, 0, rfl, Nat.le_refl _, Cells.nil _ _, hb⟩
  · have hl : l.length = L.length := by rw [← hL, List.length_map]
    refine ⟨_, cap, by rw [hl], by omega, fun _ => ⟨g, 0, rfl, fun j u hj => ?_⟩, hb⟩
    subst hL
    rw [strsC, List.getElem?_map, List.getElem?_map] at hj
    cases hLj : L[j]? with
    | none => rw [hLj] at hj; cases hj
    | some s =>
      rw [hLj] at hj
      cases hj
      obtain ⟨h1, h2⟩ := List.getElem?_eq_some_iff.1 hLj
      rw [Nat.zero_add, hs j h1, h2]
      show some (Value.string s) = some (Value.string (strOf s.data.toList))
      rw [strOf_self]
set_option maxRecDepth 100000 in
set_option maxHeartbeats 4000000 in
theorem set_calls (o : Option Sp.T) (v : Value) (p : Sp.Bs) (l : List Sp.Ver) (Al : Option Addr) (cl : Nat) (w : World) (h : TreeAt w v o) (hok : ∀ t, o = some t → Sp.Ok t) (hsz : (Sp.entriesO o).length ≤ 900000) (hV : Vers w Al l) (K : KeysAt w 2) (M : MaxAt w) :
    Calls Tryz.prog 48 #[v, .string (strOf p), .slice Al l.length cl] w fun e w' => ∃ v', e = .returned (.tuple #[v', .int .i64 (Sp.setCode o p l)]) ∧ (Sp.setCode o p l = 0 → TreeAt w' v' (Sp.withO o (Sp.split p) l)) ∧ (Sp.setCode o p l ≠ 0 → v' = .pointer none) ∧ Ext w w' := by
  have PC := Lib.hid (pcheck_calls (strOf p) w M)
  rw [strOf_data] at PC
  have HH := Lib.hid h
  have HV := Lib.hid hV
  have KK := Lib.hid K
  have MM := Lib.hid M
  have HOK := Lib.hid hok
  have HSZ := Lib.hid hsz
  clear h hV K M hok hsz
  go_enter Tryz.func48, Tryz.ntmps48
  go_wp2_with fail
  refine PC.out.mono ?_
  rintro e w1 ⟨rfl, hb1⟩
  have B1 := Lib.hid (show Ext w w1 from hb1)
  clear hb1 PC
  by_cases hc : Sp.check p = 0
  · rw [hc]
    have HC := Lib.hid hc
    have LC := Lib.hid (leaf_calls l Al cl w1 (HV.out.ext B1.out))
    clear hc
    go_wp2_with fail
    refine LC.out.mono ?_
    rintro e w2 ⟨rfl, hb2⟩
    have B2 := Lib.hid (B1.out.trans hb2)
    clear hb2 LC
    by_cases hl : Sp.leaf l = 0
    · rw [hl]
      have HL := Lib.hid hl
      have LF := Lib.hid (Sp.leaf_fit (l := l) fun _ => hl)
      have CP := Lib.hid (Sp.check_parts HC.out)
      clear hl
      go_wp2_with fail
      refine (root_calls o v w2 (HH.out.ext B2.out) (KK.out.ext B2.out)).mono ?_
      rintro e w3 ⟨g, rfl, hi, hb3⟩
      have HI := Lib.hid hi
      have B3 := Lib.hid (B2.out.trans hb3)
      clear hi hb3
      go_wp2_with fail
      refine (parts_calls (strOf p) w3 (max_kept MM.out B3.out)).mono ?_
      intro e w4 ht
      obtain ⟨Ap, cp, rfl, hcp, hN, hb4⟩ := ht.nams
      rw [strOf_data, CP.out.1] at hcp hN ⊢
      have HN := Lib.hid hN
      have HCP := Lib.hid hcp
      have HI4 := Lib.hid (HI.out.ext hb4)
      have B4 := Lib.hid (B3.out.trans hb4)
      clear ht hcp hN hb4
      go_wp2_with fail
      refine (copied_calls l Al cl w4 (HV.out.ext B4.out) (Nat.le_trans LF.out.1 (by decide)) (fun v hv => Nat.le_trans (LF.out.2 v hv) (by decide))).mono ?_
      rintro e w5 ⟨v5, rfl, hO5, hb5⟩
      obtain ⟨A5, c5, rfl, hV5⟩ := hO5.read
      have V5 := Lib.hid hV5
      have B5 := Lib.hid (B4.out.trans hb5)
      have HI5 := Lib.hid (HI4.out.ext hb5)
      have HN5 := Lib.hid (HN.out.ext hb5)
      clear hO5 hV5 hb5
      have WC := Lib.hid (with_calls l (fun _ => HL.out) A5 c5 (Sp.split p) (some (o.getD .nil)) (.pointer (some ⟨g, 0, none⟩)) Ap cp w5 (.inr ⟨g, _, rfl, rfl, HI5.out⟩) (fun t ht => by cases ht; exact getD_ok HOK.out) (fun t ht => by cases ht; rw [Sp.getD_size]; exact HSZ.out) HN5.out HCP.out
        (fun n hn => List.all_eq_true.1 CP.out.2.2.2 n hn) (Nat.le_trans CP.out.2.2.1 (by decide)) V5.out (KK.out.ext B5.out))
      rw [Sp.withO_getD] at WC
      go_wp2_with fail
      refine WC.out.mono ?_
      rintro e w6 ⟨v6, rfl, ho6, hb6⟩
      have O6 := Lib.hid ho6
      have B6 := Lib.hid (B5.out.trans hb6)
      obtain ⟨o6, ho6'⟩ : ∃ o6, o6 = Sp.withO o (Sp.split p) l := ⟨_, rfl⟩
      rw [← ho6'] at O6
      have HO6 := Lib.hid ho6'
      have tokB : True := trivial
      have v6c := Lib.hid (show v6.cells = #[v6] ∧ v6.oneCell' = true by obtain ⟨oa, rfl⟩ := ho6.ptr; exact ⟨rfl, rfl⟩)
      obtain ⟨oa, rfl⟩ := ho6.ptr
      clear ho6 hb6 ho6' v6c
      go_wp2_with (have _t := tokB; ((with_reducible refine at_box (t := 153) rfl ?_); refine box_new rfl (cs := #[.pointer oa]) (t := 153) (by first | (go_simp; done) | (go_simp; rfl)) ?_; intro g7 w7 hg7 hx7 hb7; have X7 := Lib.hid hx7; have B7 := Lib.hid (show Ext w6 w7 from hb7); clear tokB _t hx7 hb7 hg7))
      have T7 := Lib.hid (show TreeAt w7 (.pointer (some ⟨g7, 0, none⟩)) o6 from .inr ⟨g7, _, rfl, X7.out, O6.out.ext B7.out⟩)
      refine (len_calls o6 _ w7 T7.out (KK.out.ext (B6.out.trans B7.out))).mono ?_
      rintro e w8 ⟨rfl, hb8⟩
      have B8 := Lib.hid (show Ext w7 w8 from hb8)
      clear hb8
      have SC := Lib.hid (show Sp.setCode o p l = if 128 < (Sp.entriesO o6).length then 4 else 0 by unfold Sp.setCode; rw [if_neg (by simpa using HC.out), if_neg (by simpa using HL.out), ← HO6.out])
      obtain ⟨n6, hn6⟩ : ∃ n6, n6 = (Sp.entriesO o6).length := ⟨_, rfl⟩
      rw [← hn6] at SC ⊢
      have BB := Lib.hid (B6.out.trans (B7.out.trans B8.out))
      clear hn6
      by_cases h128 : 128 < n6
      · have c1 : (128 : Int) < (n6 : Int) := by omega
        go_wp2
        go_ret2
        rw [SC.out, if_pos h128]
        exact ⟨_, rfl, fun h => absurd h (by decide), fun _ => rfl, BB.out⟩
      · have c1 : ¬ (128 : Int) < (n6 : Int) := by omega
        go_wp2
        go_ret2
        rw [SC.out, if_neg h128]
        exact ⟨_, rfl, fun _ => by rw [← HO6.out]; exact T7.out.ext B8.out, fun h => absurd rfl h, BB.out⟩
    · have SC := Lib.hid (show Sp.setCode o p l = Sp.leaf l by unfold Sp.setCode; rw [if_neg (by simpa using HC.out), if_pos hl])
      have c1 : (Sp.leaf l == 0) = false := by rw [beq_eq_false_iff_ne]; exact hl
      go_wp2
      go_ret2
      rw [SC.out]
      exact ⟨_, rfl, fun h => absurd h hl, fun _ => rfl, B2.out⟩
  · have SC := Lib.hid (show Sp.setCode o p l = Sp.check p by unfold Sp.setCode; rw [if_pos hc])
    have c1 : (Sp.check p == 0) = false := by rw [beq_eq_false_iff_ne]; exact hc
    go_wp2
    go_ret2
    rw [SC.out]
    exact ⟨_, rfl, fun h => absurd h hc, fun _ => rfl, B1.out⟩
end Go.Proofs.YtmlfnidckfeebaaGreatDoor
namespace Go.Proofs.YtmlfnidckfeebaaGreatDoor
open Go.RowKit Go.Shelf
attribute [local go_sem] yUpon
/-- Entries, in memory. -/
def entC (x : Option Addr × Nat × Sp.DE) : List Value := [.string (strOf x.2.2.1), .slice x.1 x.2.2.2.length x.2.1]
def entsC : List (Option Addr × Nat × Sp.DE) → List Value
  | [] => []
  | x :: r => entC x ++ entsC r
theorem entsC_len : ∀ m, (entsC m).length = m.length * 2
  | [] => rfl
  | x :: r => by rw [entsC, List.length_append, entsC_len r, List.length_cons]; simp [entC]; omega
theorem entsC_get : ∀ (m : List (Option Addr × Nat × Sp.DE)) (k j : Nat) (h : k < m.length), j < 2 → (entsC m)[k * 2 + j]? = (entC m[k])[j]?
  | x :: r, 0, j, _, hj => by
    rw [entsC, Nat.zero_mul, Nat.zero_add, List.getElem?_append_left (by simp [entC]; omega)]; rfl
  | x :: r, k + 1, j, h, hj => by
    have ih := entsC_get r k j (by simpa using h) hj
    have h2 : (entC x).length = 2 := rfl
    rw [entsC, List.getElem?_append_right (by rw [h2]; omega), h2, show (k + 1) * 2 + j - 2 = k * 2 + j by omega, ih]
    rfl
def EntsAt (w : World) (A : Option Addr) (l : List Sp.DE) : Prop := ∃ m : List (Option Addr × Nat × Sp.DE), m.map (·.2.2) = l ∧ Cells w A (entsC m) ∧ ∀ x ∈ m, Vers w x.1 x.2.2.2
theorem EntsAt.ext {w w' : World} (e : Ext w w') {A : Option Addr} {l : List Sp.DE} (h : EntsAt w A l) : EntsAt w' A l := by
  obtain ⟨m, h1, h2, h3⟩ := h
  exact ⟨m, h1, h2.ext e, fun x hx => (h3 x hx).ext e⟩
theorem EntsAt.at {w : World} {A : Option Addr} {l : List Sp.DE} (h : EntsAt w A l) (hn : 0 < l.length) : ∃ g o, A = some ⟨g, o, none⟩ ∧ ∀ k (hk : k < l.length), ∃ Av cv, w.cell? ⟨g, o + k * 2, none⟩ = some (.string (strOf (l[k]).1)) ∧ w.cell? ⟨g, o + k * 2 + 1, none⟩ = some (.slice Av (l[k]).2.length cv) ∧ Vers w Av (l[k]).2 := by
  obtain ⟨m, rfl, h2, h3⟩ := h
  have hm : (m.map (·.2.2)).length = m.length := List.length_map ..
  obtain ⟨g, o, hA, hc⟩ := h2 (by
    intro e
    have := entsC_len m
    rw [e] at this
    simp at this hn
    omega)
  refine ⟨g, o, hA, fun k hk => ?_⟩
  rw [hm] at hk
  have e0 := entsC_get m k 0 hk (by decide)
  have e1 := entsC_get m k 1 hk (by decide)
  refine ⟨m[k].1, m[k].2.1, ?_, ?_, ?_⟩
  · rw [List.getElem_map]; exact hc (k * 2) _ (by simpa [entC] using e0)
  · rw [List.getElem_map, Nat.add_assoc]; exact hc (k * 2 + 1) _ (by simpa [entC] using e1)
  · rw [List.getElem_map]; exact h3 m[k] (List.getElem_mem hk)
namespace Sp
/-- The tree of some entries, from one on; and why there is none. -/
def ofT : Option T → List DE → Option T × Int
  | o, [] => (o, 0)
  | o, e :: r => if setCode o e.1 e.2 ≠ 0 then (none, setCode o e.1 e.2) else ofT (withO o (split e.1) e.2) r
def GoodO (o : Option T) : Prop := (∀ t, o = some t → Ok t) ∧ (entriesO o).length ≤ 128
theorem setCode_ok {o : Option T} {p : Bs} {l : List Ver} (h : setCode o p l = 0) : check p = 0 ∧ leaf l = 0 ∧ (entriesO (withO o (split p) l)).length ≤ 128 := by
  unfold setCode at h
  by_cases h1 : check p = 0
  · rw [if_neg (by simpa using h1)] at h
    by_cases h2 : leaf l = 0
    · rw [if_neg (by simpa using h2)] at h
      by_cases h3 : 128 < (entriesO (withO o (split p) l)).length
      · rw [if_pos h3] at h; exact absurd h (by decide)
      · exact ⟨h1, h2, by omega⟩
    · rw [if_pos h2] at h; exact absurd h h2
  · rw [if_pos h1] at h; exact absurd h h1
theorem setCode_good {o : Option T} {p : Bs} {l : List Ver} (h : setCode o p l = 0) (ho : GoodO o) : GoodO (withO o (split p) l) := by
  obtain ⟨h1, h2, h3⟩ := setCode_ok h
  exact ⟨fun t ht => (with_ok l (fun _ => h2) (split p) o (fun n hn => List.all_eq_true.1 (check_parts h1).2.2.2 n hn) ho.1 t ht).2, h3⟩
theorem good_none : GoodO none := ⟨(fun t h => by cases h), Nat.zero_le _⟩
theorem ofT_good : ∀ (l : List DE) (o : Option T), GoodO o → GoodO (ofT o l).1
  | [], o, h => h
  | e :: r, o, h => by
    rw [ofT]
    by_cases hc : setCode o e.1 e.2 = 0
    · rw [if_neg (by simpa using hc)]; exact ofT_good r _ (setCode_good hc h)
    · rw [if_pos hc]; exact good_none
end Sp
set_option maxRecDepth 100000 in
set_option maxHeartbeats 4000000 in
theorem of_calls (l : List Sp.DE) (A : Option Addr) (cap : Nat) (w : World) (h : EntsAt w A l) (hl : l.length ≤ 1000000) (K : KeysAt w 2) (M : MaxAt w) :
    Calls Tryz.prog 40 #[.slice A l.length cap] w fun e w' => ∃ v, e = .returned (.tuple #[v, .int .i64 (Sp.ofT none l).2]) ∧ TreeAt w' v (Sp.ofT none l).1 ∧ Ext w w' := by
  have HH := Lib.hid h
  have KK := Lib.hid K
  have MM := Lib.hid M
  have tokB : True := trivial
  clear h K M
  go_enter Tryz.func40, Tryz.ntmps40
  go_wp2_with (have _t := tokB; ((with_reducible refine at_box (t := 153) rfl ?_); refine box_new rfl (cs := #[.pointer none]) (t := 153) (by first | (go_simp; done) | (go_simp; rfl)) ?_; intro g2 w2 hg2 hx2 hb2; have X2 := Lib.hid hx2; have B2 := Lib.hid (show Ext w w2 from hb2); clear tokB _t hx2 hb2 hg2))
  go_loopw [4, 13] (fun v4 v13 wr => ∃ (k : Nat) (o : Option Sp.T) (v : Value), k ≤ l.length ∧ v = v4 ∧ v13 = .int .i64 k ∧ TreeAt wr v o ∧ Sp.GoodO o ∧ Sp.ofT o (l.drop k) = Sp.ofT none l ∧ Ext w wr) (fun _ v13 _ => l.length - (intOf v13).toNat)
  case atStart => exact ⟨0, none, _, Nat.zero_le _, rfl, rfl, .inr ⟨g2, _, rfl, X2.out, .inl ⟨rfl, rfl⟩⟩, Sp.good_none, rfl, B2.out⟩
  case round =>
    obtain ⟨k, o, v, hk2, rfl, rfl, ht, hgo, hof, hb⟩ := hrel
    have HT := Lib.hid ht
    have GO := Lib.hid hgo
    have HB := Lib.hid hb
    by_cases hlt : k < l.length
    · have OF := Lib.hid (show Sp.ofT o (l[k] :: l.drop (k + 1)) = Sp.ofT none l by rw [← List.drop_eq_getElem_cons hlt]; exact hof)
      obtain ⟨eb, eo, rfl, he⟩ := HH.out.at (by omega)
      obtain ⟨Av, cv, c0, c1, hv⟩ := he k hlt
      obtain ⟨x, hx⟩ : ∃ x, x = l[k] := ⟨_, rfl⟩
      rw [← hx] at c0 c1 hv OF
      have d0 := HB.out.cell c0
      have d1 := HB.out.cell c1
      have HV := Lib.hid hv
      have b1 : (k : Int) < (l.length : Int) := by omega
      have tokA : True := trivial
      have HX := Lib.hid hx
      clear c0 c1 hv hof ht hgo hb he hx
      go_wp2_with (have _t := tokA; ((with_reducible refine at_alloc (t := 43) rfl ?_); refine box_new rfl (cs := #[.string ⟨#[]⟩, .slice none 0 0]) (t := 43) (by first | (go_simp; done) | (go_simp; rfl)) ?_; intro g3 w3 hg3 hx3 hb3; have X3 := Lib.hid hx3; have B3 := Lib.hid (show Ext wr w3 from hb3); have G3 := Lib.hid hg3; have k0 := (hx3.cell 0).trans rfl; have k1 := (hx3.cell 1).trans rfl; have k2 := hx3.frozen 0; have k3 := hx3.frozen 1; clear tokA _t hx3 hb3 hg3))
      obtain ⟨w5, hw5⟩ : ∃ w5, w5 = (w3.setCell ⟨g3, 0, none⟩ (.string (strOf x.1))).setCell ⟨g3, 1, none⟩ (.slice Av x.2.length cv) := ⟨_, rfl⟩
      have B5 := Lib.hid (show Ext wr w5 by rw [hw5]; exact (B3.out.setCell G3.out _).setCell G3.out _)
      rw [← hw5]
      clear hw5 k0 k1 k2 k3 d0 d1
      have E5 := Lib.hid (HB.out.trans B5.out)
      refine (set_calls o v x.1 x.2 Av cv w5 (HT.out.ext B5.out) GO.out.1 (Nat.le_trans GO.out.2 (by decide)) (HV.out.ext E5.out) (KK.out.ext E5.out) (max_kept MM.out E5.out)).mono ?_
      rintro e w6 ⟨v6, rfl, h0, h1, hb6⟩
      have E6 := Lib.hid (E5.out.trans hb6)
      by_cases hc : Sp.setCode o x.1 x.2 = 0
      · have T6 := Lib.hid (h0 hc)
        have G6 := Lib.hid (Sp.setCode_good hc GO.out)
        have OF2 := Lib.hid (show Sp.ofT (Sp.withO o (Sp.split x.1) x.2) (l.drop (k + 1)) = Sp.ofT none l by
          have := OF.out
          rw [Sp.ofT, if_neg (by simpa using hc)] at this
          exact this)
        rw [hc]
        clear h0 h1 hb6 hc
        go_wp2
        refine ⟨⟨k + 1, _, v6, by omega, rfl, by go_num, T6.out, G6.out, OF2.out, E6.out⟩, by simp [intOf]; omega⟩
      · have R6 := Lib.hid (h1 hc)
        have OF2 := Lib.hid (show Sp.ofT none l = (none, Sp.setCode o x.1 x.2) by
          have := OF.out
          rw [Sp.ofT, if_pos hc] at this
          exact this.symm)
        have c1 : (Sp.setCode o x.1 x.2 == 0) = false := by rw [beq_eq_false_iff_ne]; exact hc
        clear h0 h1 hb6 hc
        go_wp2
        go_ret2
        rw [OF2.out]
        exact ⟨_, rfl, .inl ⟨rfl, rfl⟩, E6.out⟩
    · obtain rfl : k = l.length := by omega
      rw [List.drop_length] at hof
      have OF2 := Lib.hid (show (o, (0 : Int)) = Sp.ofT none l from hof)
      clear hof ht hgo hb
      go_wp2
      go_ret2
      rw [← OF2.out]
      exact ⟨v, rfl, HT.out, HB.out⟩
end Go.Proofs.YtmlfnidckfeebaaGreatDoor
namespace Go.Proofs.YtmlfnidckfeebaaGreatDoor
open Go.RowKit Go.Shelf
attribute [local go_sem] yUpon strOf_toList
/-- A builder that got room: at g, with these bytes. -/
def BldAt (B g : Nat) (l : Sp.Bs) (w : World) : Prop :=
  B ≤ g ∧ ∃ v, isBlk w g 174 #[.pointer (some ⟨g, 0, none⟩), v] ∧ w.ownsRow B 5 1 v l.length (l.map byteV) ∧ v.ownBlock ≠ some g
theorem BldAt.drew {B g : Nat} {l : Sp.Bs} {w : World} (h : BldAt B g l w) : BldAt B g l w.drew := h
namespace Sp
end Sp
end Go.Proofs.YtmlfnidckfeebaaGreatDoor
namespace Go.Proofs.YtmlfnidckfeebaaGreatDoor
open Go.RowKit
section
variable {P : Program} {md : Region.Mode} {ops : Array Oper} {T : World → Prop}
/-- A forced sequence: behind each of the first n operations the world is of the kind T. -/
def wpSeqT (P : Program) (ops : Array Oper) (T : World → Prop) (Q : Exit → Act → World → Prop) : Nat → List Oper → Act → World → Prop
  | 0, l, a, w => wpList P ops (goesOn Q) l a w
  | _ + 1, [], _, _ => False
  | n + 1, o :: l, a, w => wpList P ops (fun e a w => e = .normal ∧ T w ∧ wpSeqT P ops T Q n l a w) [o] a w
theorem seqT_zero {Q : Exit → Act → World → Prop} {l : List Oper} {a : Act} {w : World} (h : wpList P ops (goesOn Q) l a w) : wpSeqT P ops T Q 0 l a w := h
theorem seqT_succ {Q : Exit → Act → World → Prop} {n : Nat} {o : Oper} {l : List Oper} {a : Act} {w : World} (h : ∀ Q' : Exit → Act → World → Prop, (∀ a w, T w → wpSeqT P ops T Q n l a w → Q' .normal a w) → wpList P ops Q' [o] a w) : wpSeqT P ops T Q (n + 1) (o :: l) a w := h _ fun _ _ h1 h2 => ⟨rfl, h1, h2⟩
theorem wpOp_of_one {Q Q2 : Exit → Act → World → Prop} {K : Act → World → Prop} {i : Nat} {o : Oper} {a : Act} {w : World} (hi : ops[i]? = some o) (hQ : ∀ e a w, Q2 e a w → e = .normal) (hK : ∀ a w, Q2 .normal a w → K a w) (hh : wpList P ops Q2 [o] a w) : wpOp P ops Q i K a w := by
  unfold wpOp
  simp only [hi]
  unfold wpList at hh
  by_cases hwt : Region.wanted o (yielded ops a.tmps) = true
  · rw [if_pos hwt] at hh ⊢
    rcases hh with hh | ⟨_, hh⟩
    · left
      unfold Oper.wp at hh ⊢
      generalize (execOp a.eval o).run P w = r at hh ⊢
      cases r with
      | ok x w2 =>
        cases x with
        | value u => exact hK _ _ hh
        | skip => exact hK _ _ hh
        | defer d => exact hK _ _ hh
        | enter f args =>
          refine Calls.mono hh fun e w3 he => ?_
          cases e with
          | returned u => exact hK _ _ he
          | panicked c => cases hQ _ _ _ he
          | outgrown => obtain ⟨_, _, h⟩ := he; cases hQ _ _ _ h
        | row row args => exact Rows.mono hh fun u w3 he => hK _ _ he
        | _ => exact hh
      | halt x w2 =>
        cases x with
        | panic u => cases hQ _ _ _ hh
        | _ => exact hh
    · obtain ⟨_, _, h⟩ := hh; cases hQ _ _ _ h
  · rw [if_neg hwt] at hh ⊢
    exact hK _ _ hh
theorem wpAnyT_of_seqT {m : Nat} {Q : Exit → Act → World → Prop} : ∀ (n : Nat) (l : List Oper) (k : Nat) (listed : Array Bool) (a : Act) (w : World), k + n = m → (∀ j, l[j]? = ops[k + j]?) →
    Region.seqB md ops l.length k listed = true → wpSeqT P ops T Q n l a w → wpAnyT P md ops T m (goesOn Q) l.length listed a w
  | 0, l, k, listed, a, w, hm, hl, hB, h => wpAnyT_of_seq l k listed a w (by omega) hl hB h
  | n + 1, [], _, _, _, _, _, _, _, h => h.elim
  | n + 1, o :: l, k, listed, a, w, hm, hl, hB, h => by
    have h0 : ops[k]? = some o := by simpa using (hl 0).symm
    simp only [List.length_cons, Region.seqB, Bool.and_eq_true, decide_eq_true_eq] at hB
    refine ⟨fun h1 => (by rw [hB.1] at h1; cases h1), fun i hi => ?_⟩
    rw [hB.1] at hi
    obtain rfl : i = k := by simpa using hi
    exact wpOp_of_one h0 (fun e a w h => h.1) (fun a2 w2 h2 => ⟨fun _ => h2.2.1, wpAnyT_of_seqT n l (i + 1) _ a2 w2 (by omega) (fun j => by have := hl (j + 1); simpa [Nat.add_assoc, Nat.add_comm 1 j] using this) hB.2 h2.2.2⟩) h
def lexSeqB (md : Region.Mode) (ops : Array Oper) (p m : Nat) : Bool :=
  Region.noSelect ops && decide (p ≤ m) && decide (m < ops.size) && sinkFrom md ops 0 m && behindB md ops m && headB md ops (Region.seqB md ops (ops.size - p) p) p 0 (Array.replicate ops.size false)
theorem wpAny_region_seqT (T : World → Prop) {Q : Exit → Act → World → Prop} {a : Act} {w : World} {l : List Oper} (p m : Nat) (hB : lexSeqB .any l.toArray p m = true)
    (hT : T w.drew) (h : wpFloatT P l.toArray T (fun a => wpSeqT P l.toArray T Q (m - p) (l.drop p) a w.drew) (l.take p) a) : wpAny P .any l.toArray (goesOn Q) l.toArray.size (Array.replicate l.toArray.size false) a w.drew := by
  simp only [lexSeqB, Bool.and_eq_true, decide_eq_true_eq] at hB
  obtain ⟨⟨⟨⟨⟨hsel, hpm⟩, hms⟩, hs⟩, hc⟩, hlex⟩ := hB
  have hms' : m < l.length := by simpa using hms
  have hpl : (l.take p).length = p := by simp; omega
  have hdl : (l.drop p).length = l.toArray.size - p := by simp
  have inv0 : ∀ k, HeadInv .any l.toArray k (Array.replicate l.toArray.size false) := fun k =>
    ⟨by simp, fun j oj _ hl => (by rw [getD_replicate_false] at hl; cases hl), fun t _ ht => getD_in (by simpa using ht) (getD_replicate_false _ _)⟩
  refine wpAny_of_T (T := T) (m := m) _ _ _ _ ?_
  have pre := wpAnyT_of_pre (P := P) (T := T) (md := .any) (ops := l.toArray) (n := p) (m := m) (g := l.toArray.size - p) (B := Region.seqB .any l.toArray (l.toArray.size - p) p) (Q := goesOn Q) (fun c a w h => by cases h.1) hsel hpm hms
    (fun ls hi i hin hun t ht => tail_waits3 hs hc hms hi _ i rfl (Nat.zero_le _) hin hun t ht)
    (l.take p) 0 _ a w.drew (fun j hj => by have hj' : j < p := by rw [hpl] at hj; exact hj
                                            simp [hj']) (by rw [hpl]; omega) hT (inv0 p) (inv0 m) (fun j hj => absurd hj (Nat.not_lt_zero j)) (by rw [hpl]; exact hlex) ?_
  · rw [hpl, show l.toArray.size - p + p = l.toArray.size by omega] at pre
    exact pre
  · refine floatT_mono (fun a' hK => ?_) _ _ h
    intro listed' _ _ hB'
    have := wpAnyT_of_seqT (P := P) (T := T) (md := .any) (ops := l.toArray) (m := m) (Q := Q) (m - p) (l.drop p) p listed' a' w.drew (by omega) (fun j => by simp [List.getElem?_drop]) (by rw [hdl]; exact hB') hK
    rwa [hdl] at this
/-- p operations that tell one value in every world of the kind T; then a forced sequence, the operations ahead of the m-th of which stay in T. -/
theorem wp_region_seqT (T : World → Prop) {id : Nat} {Q : Exit → Act → World → Prop} {a : Act} {w : World} {l : List Oper} (p m : Nat) (hm : P.follows .mixedOrders = true) (hB : lexSeqB .any l.toArray p m = true)
    (hT : T w.drew) (h : wpFloatT P l.toArray T (fun a => wpSeqT P l.toArray T Q (m - p) (l.drop p) a w.drew) (l.take p) a) : (Code.region id l.toArray true).wp P Q a w := by
  exact Code.wp_mono (Q := goesOn Q) (fun e a w h => by obtain ⟨rfl, h⟩ := h; exact h) (wp_region_any hm (wpAny_region_seqT T p m hB hT h))
end
end Go.Proofs.YtmlfnidckfeebaaGreatDoor
namespace Go.Proofs.YtmlfnidckfeebaaGreatDoor
open Go.RowKit
/-- Below B all is as it was, and all rows are but those of the types T. -/
structure KB (T : TypeId → Prop) (B : Nat) (W W' : World) : Prop where
  below : Below B W W'
  row : ∀ (b : Nat) (cs : Array Value) (t : TypeId) (f : Nat × Nat), W.heap[b]? = some (.cells cs t f) → ¬ T t → W'.heap[b]? = some (.cells cs t f)
abbrev noT : TypeId → Prop := fun _ => False
theorem KB.refl (T : TypeId → Prop) (B : Nat) (W : World) : KB T B W W := ⟨Below.refl _ _, fun _ _ _ _ h _ => h⟩
theorem KB.trans {T : TypeId → Prop} {B : Nat} {a b c : World} (h : KB T B a b) (k : KB T B b c) : KB T B a c := ⟨h.below.trans k.below, fun i cs t f hi ht => k.row i cs t f (h.row i cs t f hi ht) ht⟩
theorem KB.ext {T : TypeId → Prop} {B : Nat} {a b : World} (hB : B ≤ a.heap.size) (h : Ext a b) : KB T B a b :=
  ⟨h.mono hB, fun i _ _ _ hi _ => (h.block i (Array.getElem?_eq_some_iff.1 hi).1).trans hi⟩
theorem KB.put {T : TypeId → Prop} {B l : Nat} {W : World} {r : Loop} (hB : B ≤ l) (h : W.heap[l]? = some (.loop r)) (o : Obj) : KB T B W (W.putObj l o) :=
  ⟨⟨rfl, rfl, rfl, by simp, fun k hk => World.putObj_heap_other (by omega)⟩, fun i cs t f hi _ => (World.putObj_heap_other (fun e => by rw [e, h] at hi; cases hi)).trans hi⟩
end Go.Proofs.YtmlfnidckfeebaaGreatDoor
namespace Go.Proofs.YtmlfnidckfeebaaGreatDoor
open Go.RowKit Go.Shelf
/-- A leaf: where it lies; its path in parts, and the versions. -/
abbrev LE := Option Addr × Nat × Sp.PE
/-- What is told of a leaf. -/
def encL (x : LE) : Array Value := #[.string (strOf (Sp.joinP x.2.2.1)), .slice x.1 x.2.2.2.length x.2.1]
/-- A directory, in a row of the walk's own. -/
def DirAt (W : World) (v : Value) (d : List Sp.Bs) : Prop := ∃ B, W.ownsRow B 9 1 v d.length (strsC d)
theorem DirAt.keep {T : TypeId → Prop} (hT : ¬ T 9) {B : Nat} {W W' : World} {v : Value} {d : List Sp.Bs} (h : DirAt W v d) (k : KB T B W W') : DirAt W' v d := by
  obtain ⟨b, h1, h2⟩ := h
  refine ⟨b, h1, ?_⟩
  rcases h2 with h2 | ⟨g, cap, cur, hv, hb, hg, rest⟩
  · exact .inl h2
  · exact .inr ⟨g, cap, cur, hv, hb, k.row _ _ _ _ hg hT, rest⟩
theorem DirAt.nil (W : World) : DirAt W (.slice none 0 0) [] := ⟨0, World.ownsRow_nil _ _ _ _⟩
end Go.Proofs.YtmlfnidckfeebaaGreatDoor
namespace Go.Proofs.YtmlfnidckfeebaaGreatDoor
open Go.RowKit Go.Shelf
attribute [local go_sem] yUpon strOf_toList
namespace Sp
theorem parts_len (d : Bs) : (parts d).length ≤ 4 := by
  unfold parts
  split
  · exact Nat.zero_le _
  · split
    · exact Nat.zero_le _
    · split
      · omega
      · exact Nat.zero_le _
def findS (t : T) (d : Bs) : Option T := if d = [] then some t else if parts d = [] then none else findT t (parts d)
theorem kid_fits {t : T} (h : Ok t) (hs : sizeT t ≤ 900000) {n : Bs} {s : T} (hk : kid t.kids n = some s) : Ok s ∧ sizeT s ≤ 900000 :=
  ⟨kid_ok t.kids n s (ok_rise h).2 hk, Nat.le_trans (kid_size t.kids n s hk) (by have := sizeT_n0 t; omega)⟩
end Sp
set_option maxRecDepth 100000 in
set_option maxHeartbeats 4000000 in
theorem find_calls (o : Option Sp.T) (v : Value) (d : Sp.Bs) (w : World) (h : TreeAt w v o) (hg : Sp.GoodO o) (K : KeysAt w 2) (M : MaxAt w) :
    Calls Tryz.prog 86 #[v, .string (strOf d)] w fun e w' => ∃ v', e = .returned v' ∧ OptAt w' v' (Sp.findS (o.getD .nil) d) ∧ Ext w w' := by
  have RC := Lib.hid (root_calls o v w h K)
  have MM := Lib.hid M
  obtain ⟨t, ht⟩ : ∃ t, t = o.getD .nil := ⟨_, rfl⟩
  rw [← ht] at RC ⊢
  have OK0 := Lib.hid (show Sp.Ok t by rw [ht]; exact getD_ok hg.1)
  have SZ0 := Lib.hid (show Sp.sizeT t ≤ 900000 by rw [ht, Sp.getD_size]; exact Nat.le_trans hg.2 (by decide))
  clear h K M ht hg
  go_enter Tryz.func86, Tryz.ntmps86
  go_wp2_with fail
  refine RC.out.mono ?_
  rintro e w1 ⟨g, rfl, hi, hb⟩
  have HI := Lib.hid hi
  have B1 := Lib.hid hb
  clear hi hb RC
  by_cases hd : d = []
  · subst hd
    have c1 : (([] : List UInt8).isEmpty) = true := rfl
    go_wp2
    go_ret
    exact ⟨_, rfl, .inr ⟨g, t, by rw [Sp.findS, if_pos rfl], rfl, HI.out⟩, B1.out⟩
  · have c1 : ((strOf d).toList == ([] : List UInt8)) = false := by rw [strOf_toList, beq_eq_false_iff_ne]; exact hd
    have c2 : ¬ strOf d = ⟨#[]⟩ := fun e => hd (by have := congrArg (fun s => s.data.toList) e; simpa using this)
    have c3 : ¬ d = [] := hd
    have c5 : d.isEmpty = false := by cases d with | nil => exact absurd rfl hd | cons _ _ => rfl
    have c6 : (d == []) = false := by rw [beq_eq_false_iff_ne]; exact hd
    have HD := Lib.hid hd
    clear hd
    go_wp2_with fail
    refine (parts_calls (strOf d) w1 (max_kept MM.out B1.out)).mono ?_
    intro e w2 hts
    obtain ⟨Ap, cp, rfl, hcp, hN, hb2⟩ := hts.nams
    rw [strOf_data] at hcp hN ⊢
    obtain ⟨ps, hps⟩ : ∃ ps, ps = Sp.parts d := ⟨_, rfl⟩
    have hp4 : ps.length ≤ 4 := by rw [hps]; exact Sp.parts_len d
    rw [← hps] at hcp hN ⊢
    have FS := Lib.hid (show Sp.findS t d = if ps = [] then none else Sp.findT t ps by rw [Sp.findS, if_neg HD.out, ← hps])
    have HN := Lib.hid hN
    have HI2 := Lib.hid (HI.out.ext hb2)
    have B2 := Lib.hid (B1.out.trans hb2)
    clear hts hcp hN hb2 hps
    by_cases hp : ps = []
    · subst hp
      go_wp2
      go_ret
      exact ⟨_, rfl, .inl ⟨by rw [FS.out]; simp, rfl⟩, B2.out⟩
    · have hl : ps.length ≠ 0 := fun h => hp (List.eq_nil_of_length_eq_zero h)
      have c4 : ((ps.length : Int) == 0) = false := by rw [beq_eq_false_iff_ne]; omega
      have FS2 := Lib.hid (show Sp.findS t d = Sp.findT t ps by rw [FS.out, if_neg hp])
      have HPN := Lib.hid hp
      clear hp
      go_wp2
      go_loopw [5, 21] (fun v5 v21 wr => ∃ (k gx : Nat) (tx : Sp.T), k ≤ ps.length ∧ v5 = .pointer (some ⟨gx, 0, none⟩) ∧ v21 = .int .i64 k ∧ InnerAt wr gx tx ∧ Sp.Ok tx ∧ Sp.sizeT tx ≤ 900000 ∧ Sp.findT tx (ps.drop k) = Sp.findT t ps ∧ Ext w2 wr) (fun _ v21 _ => ps.length - (intOf v21).toNat)
      case atStart => exact ⟨0, g, t, Nat.zero_le _, rfl, rfl, HI2.out, OK0.out, SZ0.out, rfl, Ext.refl _⟩
      case round =>
        obtain ⟨k, gx, tx, hk2, rfl, rfl, hix, hok, hsz, hft, hb⟩ := hrel
        have HB := Lib.hid hb
        by_cases hlt : k < ps.length
        · skip
          obtain ⟨nb, no, rfl, hnm⟩ := HN.out.at (by omega)
          have n1 := HB.out.cell (hnm k hlt)
          obtain ⟨n, hn⟩ : ∃ n, n = ps[k] := ⟨_, rfl⟩
          rw [← hn] at n1
          have FT := Lib.hid (show (Sp.kid tx.kids n).bind (fun s => Sp.findT s (ps.drop (k + 1))) = Sp.findT t ps by
            rw [List.drop_eq_getElem_cons hlt, ← hn] at hft
            exact hft)
          have KC := Lib.hid (ikid_calls tx gx n wr hix (ok_rise hok).1 (Sp.ok_fit hok (Nat.le_trans hsz (by decide))).2.2.1)
          have KF := Lib.hid (show ∀ s, Sp.kid tx.kids n = some s → Sp.Ok s ∧ Sp.sizeT s ≤ 900000 from fun s hs => Sp.kid_fits hok hsz hs)
          have b1 : (k : Int) < (ps.length : Int) := by omega
          clear hix hok hsz hft hb hnm hn
          go_wp2_with fail
          refine KC.out.mono ?_
          rintro e w4 ⟨v4, rfl, ho4, hb4⟩
          have E4 := Lib.hid (HB.out.trans hb4)
          rcases ho4 with ⟨h4, rfl⟩ | ⟨g4, t4, h4, rfl, hi4⟩
          · have F4 := Lib.hid (show Sp.findT t ps = none by rw [← FT.out, h4]; rfl)
            clear h4 hb4
            go_wp2
            go_ret
            exact ⟨_, rfl, .inl ⟨by rw [FS2.out, F4.out], rfl⟩, B2.out.trans E4.out⟩
          · have F4 := Lib.hid (show Sp.findT t4 (ps.drop (k + 1)) = Sp.findT t ps by rw [← FT.out, h4]; rfl)
            have OK4 := Lib.hid (KF.out t4 h4)
            have I4 := Lib.hid hi4
            clear h4 hb4 hi4
            go_wp2
            refine ⟨⟨k + 1, g4, t4, by omega, rfl, by go_num, I4.out, OK4.out.1, OK4.out.2, F4.out, E4.out⟩, by simp [intOf]; omega⟩
        · obtain rfl : k = ps.length := by omega
          rw [List.drop_length] at hft
          have F4 := Lib.hid (show some tx = Sp.findT t ps from hft)
          have I4 := Lib.hid hix
          clear hft hix hok hsz hb
          go_wp2
          go_ret
          exact ⟨_, rfl, .inr ⟨gx, tx, by rw [FS2.out, ← F4.out], rfl, I4.out⟩, B2.out.trans HB.out⟩
end Go.Proofs.YtmlfnidckfeebaaGreatDoor
namespace Go.Proofs.YtmlfnidckfeebaaGreatDoor
open Go.RowKit Go.Shelf
attribute [local go_sem] yUpon strOf_toList
theorem results_cell_two {P : Program} {fn : Func} {p u : Tmp} {ty : TypeId} (h : fn.results = #[.cell p ty, .tmp u]) (tmps : Array Value) (w : World) (g : Nat) (t : TypeId) (cs : Array Value) (d : TypeDesc)
    (hp : tmps.getD p undef = .pointer (some ⟨g, 0, none⟩)) (hg : isBlk w g t cs) (hu : P.underlying ty = some d) (hd : (match d with | .struct _ | .array _ _ => true | _ => false) = true) (hi : (P.info? ty).map (·.size) = some cs.size) :
    (results fn tmps).run P w = .ok (.tuple #[.agg cs, tmps.getD u undef]) w := by
  rw [results_cell_tmp h, hp]
  simp only [asAddr, Sem.run_pure, Result.andThen_ok]
  rw [run_loadVar_row w g t ty cs (0, 0) d hg hu hd hi]
  rfl
namespace Sp
theorem findT_fits : ∀ (d : List Bs) (t s : T), Ok t → sizeT t ≤ 900000 → findT t d = some s → Ok s ∧ sizeT s ≤ 900000
  | [], t, s, h, hs, e => by cases e; exact ⟨h, hs⟩
  | n :: d, t, s, h, hs, e => by
    rw [findT] at e
    cases hk : kid t.kids n with
    | none => rw [hk] at e; cases e
    | some u =>
      rw [hk] at e
      have := kid_fits h hs hk
      exact findT_fits d u s this.1 this.2 e
theorem findS_fits {t s : T} {d : Bs} (h : Ok t) (hs : sizeT t ≤ 900000) (e : findS t d = some s) : Ok s ∧ sizeT s ≤ 900000 := by
  unfold findS at e
  split at e
  · cases e; exact ⟨h, hs⟩
  · split at e
    · cases e
    · exact findT_fits _ _ _ h hs e
/-- The node at a directory; the empty one, if there is none. -/
def nodeS (t : T) (d : Bs) : Node := match findS t d with
  | none => ([], [])
  | some s => nodeT s
end Sp
set_option maxRecDepth 100000 in
set_option maxHeartbeats 4000000 in
theorem tnodeO_calls (o : Option Sp.T) (v : Value) (d : Sp.Bs) (w : World) (h : TreeAt w v o) (hg : Sp.GoodO o) (K : KeysAt w 2) (M : MaxAt w) :
    Calls Tryz.prog 212 #[v, .string (strOf d)] w fun e w' => ∃ A c B c', e = .returned (.tuple #[nodeV A (Sp.nodeS (o.getD .nil) d).1.length c B (Sp.nodeS (o.getD .nil) d).2.length c', .bool (Sp.findS (o.getD .nil) d).isSome]) ∧ Vers w' A (Sp.nodeS (o.getD .nil) d).1 ∧ Kids w' B (Sp.nodeS (o.getD .nil) d).2 ∧ Ext w w' ∧ w'.ownsRow w.heap.size 268 33 (.slice B (Sp.nodeS (o.getD .nil) d).2.length c') (Sp.nodeS (o.getD .nil) d).2.length (kidsC (Sp.nodeS (o.getD .nil) d).2) := by
  have FC := Lib.hid fun W (e : Ext w W) => find_calls o v d W (h.ext e) hg (K.ext e) (max_kept M e)
  obtain ⟨t, ht⟩ : ∃ t, t = o.getD .nil := ⟨_, rfl⟩
  rw [← ht] at FC ⊢
  have OK0 := Lib.hid (show Sp.Ok t by rw [ht]; exact getD_ok hg.1)
  have SZ0 := Lib.hid (show Sp.sizeT t ≤ 900000 by rw [ht, Sp.getD_size]; exact Nat.le_trans hg.2 (by decide))
  have tok1 : True := trivial
  clear h K M ht hg
  go_enter Tryz.func212, Tryz.ntmps212
  go_wp2_with (have _t := tok1; ((with_reducible refine at_alloc (t := 116) rfl ?_); refine box_new rfl (cs := #[.slice none 0 0, .slice none 0 0]) (t := 116) (by first | (go_simp; done) | (go_simp; rfl)) ?_; intro g2 w2 hg2 hx2 hb2; have H2 := Lib.hid hx2; have B2 := Lib.hid (show Ext w w2 from hb2); have GG2 := Lib.hid hg2; clear tok1 _t hx2 hb2 hg2))
  refine (FC.out w2 B2.out).mono ?_
  rintro e w3 ⟨v3, rfl, ho3, hb3⟩
  have B3 := Lib.hid (show Ext w2 w3 from hb3)
  have H3 := Lib.hid (H2.out.below hb3)
  clear hb3 FC
  rcases ho3 with ⟨h3, rfl⟩ | ⟨g3, s, h3, rfl, hi3⟩
  · have N3 := Lib.hid (show Sp.nodeS t d = ([], []) by rw [Sp.nodeS, h3])
    have F3 := Lib.hid h3
    have k0 := (H3.out.cell 0).trans rfl
    have k1 := (H3.out.cell 1).trans rfl
    have k2 := H3.out.frozen 0
    have k3 := H3.out.frozen 1
    clear h3
    go_wp2
    have hz := (H3.out.put 0 (.slice none 0 0) rfl).put 1 (.slice none 0 0) rfl
    refine bodyPost_ret (results_cell_two rfl _ _ g2 116 #[.slice none 0 0, .slice none 0 0] _ rfl hz Tryz.underlying116 rfl (by kernel_rfl)) rfl ?_
    rw [N3.out, F3.out]
    have e1 := (Only.set g2 0 (.slice none 0 0) w3).trans (Only.set g2 1 (.slice none 0 0) _)
    have BW := B2.out.trans B3.out
    exact ⟨none, 0, none, 0, rfl, ⟨[], rfl, Cells.nil _ _, fun x h => by cases h⟩, Kids.nil _ _, BW.from' (e1.below GG2.out BW.size), World.ownsRow_nil _ _ _ _⟩
  · have N3 := Lib.hid (show Sp.nodeS t d = Sp.nodeT s by rw [Sp.nodeS, h3])
    have F3 := Lib.hid h3
    have FT := Lib.hid (Sp.ok_fit (Sp.findS_fits OK0.out SZ0.out h3).1 (Nat.le_trans (Sp.findS_fits OK0.out SZ0.out h3).2 (by decide)))
    obtain ⟨A, B, C, c, c', c'', gs, hp⟩ := hi3.pre
    have IN := Lib.hid (inodeO_calls s g3 A B C c c' c'' gs _ w3 hp FT.out.1 FT.out.2.1 FT.out.2.2.1 FT.out.2.2.2.1)
    clear h3 hi3 hp
    go_wp2_with fail
    refine IN.out.mono ?_
    rintro e w4 ⟨A4, c4, B4, c5, rfl, hv4, hk4, hb4, ho4⟩
    have O4 := Lib.hid ho4
    have E34 := Lib.hid hb4
    have H4 := Lib.hid (H3.out.below hb4)
    have E4 := Lib.hid (B2.out.trans (B3.out.trans hb4))
    have V4 := Lib.hid hv4
    have K4 := Lib.hid hk4
    have k0 := (H4.out.cell 0).trans rfl
    have k1 := (H4.out.cell 1).trans rfl
    have k2 := H4.out.frozen 0
    have k3 := H4.out.frozen 1
    clear hv4 hk4 hb4 ho4
    go_wp2
    have hz := (H4.out.put 0 (.slice A4 s.leaf.length c4) rfl).put 1 (.slice B4 s.kids.length c5) rfl
    refine bodyPost_ret (results_cell_two rfl _ _ g2 116 #[.slice A4 s.leaf.length c4, .slice B4 s.kids.length c5] _ rfl hz Tryz.underlying116 rfl (by kernel_rfl)) rfl ?_
    have e1 := (Only.set g2 0 (.slice A4 s.leaf.length c4) w4).trans (Only.set g2 1 (.slice B4 s.kids.length c5) _)
    have hs : ∀ z ∈ (#[.slice none 0 0, .slice none 0 0] : Array Value).toList, isSl z = true := by decide
    have nlen : (Sp.nodeT s).2.length = s.kids.length := by rw [nodeT_kids, List.length_map]
    rw [N3.out, F3.out]
    refine ⟨A4, c4, B4, c5, by rw [nodeT_leaf, nlen]; rfl, ?_, K4.out.apart e1 H4.out hs, E4.out.from' (e1.below GG2.out E4.out.size), ?_⟩
    · rw [nodeT_leaf]
      exact V4.out.apart e1 H4.out hs
    · have hfar : (Value.slice B4 s.kids.length c5).ownBlock ≠ some g2 := fun e => by
        have h1 := (O4.out.lt g2 e).1
        have h2 := H2.out.lt
        have h3 := B3.out.size
        omega
      rw [nlen]
      refine own_lowT' (own_far (own_far O4.out hfar _) hfar _) ?_
      have h3 := B3.out.size
      have h4 := B2.out.size
      omega
end Go.Proofs.YtmlfnidckfeebaaGreatDoor
