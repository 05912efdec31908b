/- Deltas, plain: what is opened is needed; what differs is told; the order. Walks: what is below a directory, in parts (the law's own recursion). Walks: DeltaNeeds. -/
import Derived.Test.YtmlfnidckfeebaaGreatDoorP024
import Derived.Test.YtmlfnidckfeebaaGreatDoorP025
import Derived.Test.YtmlfnidckfeebaaGreatDoorP031
namespace Go.Proofs.YtmlfnidckfeebaaGreatDoor
open Go.RowKit
namespace Sp
theorem kids2_same : ∀ (x y : List Kid), (∀ k ∈ kids2 x y, differ2 k = false) → x = y
  | [], [], _ => rfl
  | a :: r, [], h => by
    rw [kids2] at h
    have := h _ (List.mem_cons_self ..)
    simp [differ2] at this
  | [], b :: s, h => by
    rw [kids2] at h
    have := h _ (List.mem_cons_self ..)
    simp [differ2] at this
  | a :: r, b :: s, h => by
    rw [kids2] at h
    by_cases q1 : Op.bytesLess a.1 b.1 = true
    · rw [if_pos q1] at h
      have := h _ (List.mem_cons_self ..)
      simp [differ2] at this
    · rw [if_neg q1] at h
      by_cases q2 : Op.bytesLess b.1 a.1 = true
      · rw [if_pos q2] at h
        have := h _ (List.mem_cons_self ..)
        simp [differ2] at this
      · rw [if_neg q2] at h
        have e : a.1 = b.1 := Decidable.byContradiction fun h => q2 (less_other h q1)
        have h1 := h _ (List.mem_cons_self ..)
        have e2 : a.2 = b.2 := by simpa [differ2] using h1
        rw [kids2_same r s fun k hk => h k (List.mem_cons_of_mem _ hk)]
        congr 1
        exact Prod.ext e e2
termination_by x y => x.length + y.length
theorem node_nil {s : T} (h : nodeT s = ([], [])) : entries s = [] := by
  cases s with
  | mk leaf k =>
    have h1 : leaf = [] := by have := congrArg Prod.fst h; rw [nodeT_leaf] at this; exact this
    have h2 : k = [] := by
      have := congrArg Prod.snd h
      rw [nodeT_kids] at this
      have h3 : (T.mk leaf k).kids = [] := List.map_eq_nil_iff.1 this
      exact h3
    rw [h1, h2]; rfl
theorem find_ne {o : Option T} (ho : GoodO o) {d : Bs} (hd : Dir d) (h0 : d ≠ []) {s : T} (h : findS (o.getD .nil) d = some s) : nodeT s ≠ ([], []) := fun e => by
  rw [find_dir hd] at h
  have hp : parts d ≠ [] := by
    rcases hd with h1 | h1
    · exact absurd h1 h0
    · rw [(check_parts h1).1]; exact split_ne d
  exact findT_ne (parts d) _ s (getD_ok ho.1) hp h (node_nil e)
theorem node_same {oa ob : Option T} (ha : GoodO oa) (hb : GoodO ob) {d : Bs} (hd : Dir d) (h : nodeS (oa.getD .nil) d = nodeS (ob.getD .nil) d) : diffS oa ob d = false := by
  unfold nodeS at h
  unfold diffS
  cases ea : findS (oa.getD .nil) d with
  | none =>
    cases eb : findS (ob.getD .nil) d with
    | none => rfl
    | some t =>
      rw [ea, eb] at h
      by_cases h0 : d = []
      · rw [h0] at ea; unfold findS at ea; rw [if_pos rfl] at ea; cases ea
      · exact absurd h.symm (find_ne hb hd h0 eb)
  | some s =>
    cases eb : findS (ob.getD .nil) d with
    | none =>
      rw [ea, eb] at h
      by_cases h0 : d = []
      · rw [h0] at eb; unfold findS at eb; rw [if_pos rfl] at eb; cases eb
      · exact absurd h (find_ne ha hd h0 ea)
    | some t =>
      rw [ea, eb] at h
      have h2 : nodeT s = nodeT t := h
      show decide (nsum (nodeT s) ≠ nsum (nodeT t)) = false
      rw [h2]
      simp
/-- Where trees differ leaves differ, or something below. -/
theorem diff_why {oa ob : Option T} (ha : GoodO oa) (hb : GoodO ob) {d : Bs} (hd : Dir d) (h : diffS oa ob d = true) (hl : leafdiff (oa.getD .nil) (ob.getD .nil) d = false) : ∃ k ∈ kids2 (nodeS (oa.getD .nil) d).2 (nodeS (ob.getD .nil) d).2, differ2 k = true := by
  refine Decidable.byContradiction fun hn => ?_
  have hk := kids2_same _ _ fun k hk => by
    cases e : differ2 k with
    | false => rfl
    | true => exact absurd ⟨k, hk, e⟩ hn
  have hl2 : (nodeS (oa.getD .nil) d).1 = (nodeS (ob.getD .nil) d).1 := by
    unfold leafdiff at hl
    simpa using hl
  rw [node_same ha hb hd (Prod.ext hl2 hk)] at h
  cases h
theorem under_down {d n : Bs} (hd : Dir d) (_h1 : Dir (down d n)) (h2 : parts (down d n) = parts d ++ [n]) : under (down d n) d = true := by
  refine under_of ⟨by rw [h2]; simp, ?_, by rw [h2]; simp, by rw [h2]; simp⟩
  have := dir_parts hd
  simpa using this
theorem under_up {p d n : Bs} (hd : Dir d) (h2 : parts (down d n) = parts d ++ [n]) (h : under p (down d n) = true) : under p d = true := by
  obtain ⟨k1, _, k3, k4⟩ := under_parts h
  rw [h2] at k3 k4
  rw [List.length_append, List.length_singleton] at k3 k4
  refine under_of ⟨k1, by simpa using dir_parts hd, by omega, ?_⟩
  have := congrArg (List.take (parts d).length) k4
  rw [List.take_take, Nat.min_eq_left (by omega)] at this
  rw [this]
  simp
/-- What is opened is needed. -/
theorem need_all {oa ob : Option T} {ma mb : List DE} (PA : Both oa ma) (PB : Both ob mb) : ∀ (f : Nat) (d : Bs), Dir d → diffS oa ob d = true → 5 ≤ (parts d).length + f → ∀ o ∈ openT (oa.getD .nil) (ob.getD .nil) f d,
    ∃ p ∈ openT (oa.getD .nil) (ob.getD .nil) f d, leafdiff (oa.getD .nil) (ob.getD .nil) p = true ∧ (o = p ∨ under p o = true)
  | 0, d, _, _, _, o, h => by cases h
  | f + 1, d, hd, hdf, h5, o, ho => by
    rw [openT] at ho
    rcases List.mem_cons.1 ho with rfl | ho
    · by_cases hl : leafdiff (oa.getD .nil) (ob.getD .nil) o = true
      · exact ⟨o, by rw [openT]; exact List.mem_cons_self .., hl, .inl rfl⟩
      · obtain ⟨k, hk, hd2⟩ := diff_why PA.go PB.go hd hdf (by simpa using hl)
        obtain ⟨d1, d2, d3, _, d5⟩ := kid_two PA PB hd hk
        have hf : 5 ≤ (parts (down o k.1)).length + f := by rw [d2, List.length_append, List.length_singleton]; omega
        have hf0 : f ≠ 0 := by omega
        obtain ⟨f', rfl⟩ := Nat.exists_eq_succ_of_ne_zero hf0
        obtain ⟨p, p1, p2, p3⟩ := need_all PA PB (f' + 1) (down o k.1) d1 (by rw [d5, hd2]) hf (down o k.1) (by rw [openT]; exact List.mem_cons_self ..)
        refine ⟨p, open_kid hk hd2 p1, p2, .inr ?_⟩
        rcases p3 with rfl | p3
        · exact under_down hd d1 d2
        · exact under_up hd d2 p3
    · obtain ⟨k, hk, h2⟩ := List.mem_flatMap.1 ho
      obtain ⟨hk1, hk2⟩ := List.mem_filter.1 hk
      obtain ⟨d1, d2, d3, _, d5⟩ := kid_two PA PB hd hk1
      have hf : 5 ≤ (parts (down d k.1)).length + f := by rw [d2, List.length_append, List.length_singleton]; omega
      obtain ⟨p, p1, p2, p3⟩ := need_all PA PB f (down d k.1) d1 (by rw [d5, hk2]) hf o h2
      exact ⟨p, open_kid hk1 hk2 p1, p2, p3⟩
end Sp
end Go.Proofs.YtmlfnidckfeebaaGreatDoor
namespace Go.Proofs.YtmlfnidckfeebaaGreatDoor
open Go.RowKit Go.Shelf
attribute [local go_sem] yUpon strOf_toList
namespace Sp
theorem dir_len {d : Bs} (h : Dir d) : d.length ≤ 51 := by
  rcases h with rfl | h
  · exact Nat.zero_le _
  · exact (check_parts h).2.1
end Sp
end Go.Proofs.YtmlfnidckfeebaaGreatDoor
namespace Go.Proofs.YtmlfnidckfeebaaGreatDoor
open Go.RowKit Go.Shelf
attribute [local go_sem] yUpon strOf_toList
namespace Sp
theorem need_opened {oa ob : Option T} {ma mb : List DE} (PA : Both oa ma) (PB : Both ob mb) : ∀ o ∈ openedT (oa.getD .nil) (ob.getD .nil), (differT (oa.getD .nil) (ob.getD .nil)).any (fun p => (o == p) || under p o) = true := fun o ho => by
  have ho2 := ho
  unfold openedT at ho
  split at ho
  · cases ho
  · rename_i hr
    have hd : diffS oa ob [] = true := by rw [diff_root]; simpa using hr
    obtain ⟨p, p1, p2, p3⟩ := need_all PA PB 5 [] (.inl rfl) hd (by rw [parts_empty]; decide) o ho
    refine List.any_eq_true.2 ⟨p, List.mem_filter.2 ⟨?_, p2⟩, ?_⟩
    · unfold openedT
      rw [if_neg hr]
      exact p1
    · rcases p3 with rfl | h
      · simp
      · simp [h]
theorem opened_none {a b : T} (h : nsum (nodeT a) = nsum (nodeT b)) : openedT a b = [] := by unfold openedT; rw [if_pos h]
theorem opened_some {a b : T} (h : ¬ nsum (nodeT a) = nsum (nodeT b)) : ∃ n, (openedT a b).length = n + 1 := by
  unfold openedT
  rw [if_neg h, openT]
  exact ⟨_, rfl⟩
theorem any_take {α : Type} (p : α → Bool) (l : List α) (k : Nat) (h : k < l.length) : (l.take (k + 1)).any p = ((l.take k).any p || p l[k]) := by
  rw [List.take_succ_eq_append_getElem h, List.any_append]
  simp
theorem openedT_short {oa ob : Option T} {ma mb : List DE} (PA : Both oa ma) (PB : Both ob mb) : ∀ o ∈ openedT (oa.getD .nil) (ob.getD .nil), o.length ≤ 51 := fun o ho => by
  unfold openedT at ho
  split at ho
  · cases ho
  · exact dir_len (openT_dir PA PB 5 [] (.inl rfl) o ho)
end Sp
set_option maxRecDepth 100000 in
set_option maxHeartbeats 8000000 in
theorem deltaNeeds_calls (la lb : List Sp.DE) (A B : Option Addr) (cap cap' : Nat) (w : World) (hA : EntsAt w A la) (hB : EntsAt w B lb) (K : KeysAt w 2) (K2 : KeysAt w 0) (M : MaxAt w) :
    Calls Tryz.prog 4 #[.slice A la.length cap, .slice B lb.length cap'] w fun e w' => e = .returned (.bool true) ∧ Ext w w' := by
  have KK := Lib.hid K
  have KK2 := Lib.hid K2
  have MM := Lib.hid M
  have HA := Lib.hid hA
  have HB := Lib.hid hB
  have AW := Lib.hid fun W (e : Ext w W) => awake18_calls W (K.ext e) (max_kept M e)
  clear K K2 M hA hB
  go_enter Tryz.func4, Tryz.ntmps4
  go_wp2_with fail
  refine (great18_calls la lb A B cap cap' w HA.out HB.out).mono ?_
  rintro e w1 ⟨b, rfl, hgr, hb1⟩
  have B1 := Lib.hid (show Ext w w1 from hb1)
  have GR := Lib.hid hgr
  clear hb1 hgr
  cases b with
  | true =>
    go_wp2_with fail
    refine (AW.out w1 B1.out).mono ?_
    rintro e w2 ⟨rfl, hb2⟩
    go_wp2
    go_ret
    exact ⟨rfl, B1.out.trans hb2⟩
  | false =>
  obtain ⟨⟨hla, hpa⟩, hlb, hpb⟩ := GR.out (by first | rfl | trivial)
  clear GR
  go_wp2_with fail
  refine (both18_calls la lb A B cap cap' w1 (HA.out.ext B1.out) (HB.out.ext B1.out) hla hlb (KK.out.ext B1.out) (max_kept MM.out B1.out)).mono ?_
  rintro e w2 ⟨pa, pb, rfl, hta, htb, hb2⟩
  have TA := Lib.hid hta
  have TB := Lib.hid htb
  have B2 := Lib.hid (B1.out.trans hb2)
  clear hta htb hb2
  have PA := Lib.hid (Sp.both_of la)
  have PB := Lib.hid (Sp.both_of lb)
  have RA := Lib.hid fun W (e : Ext w W) => rof_calls la A cap W (HA.out.ext e) (by omega) (fun e he => Nat.le_trans (hpa e he) (by decide))
  have RB := Lib.hid fun W (e : Ext w W) => rof_calls lb B cap' W (HB.out.ext e) (by omega) (fun e he => Nat.le_trans (hpb e he) (by decide))
  obtain ⟨ma, hma⟩ : ∃ ma, ma = (Sp.rof [] la).1 := ⟨_, rfl⟩
  obtain ⟨mb, hmb⟩ : ∃ mb, mb = (Sp.rof [] lb).1 := ⟨_, rfl⟩
  rw [← hma] at PA RA
  rw [← hmb] at PB RB
  obtain ⟨oa, hoa⟩ : ∃ oa, oa = (Sp.ofT none la).1 := ⟨_, rfl⟩
  obtain ⟨ob, hob⟩ : ∃ ob, ob = (Sp.ofT none lb).1 := ⟨_, rfl⟩
  rw [← hoa] at PA TA
  rw [← hob] at PB TB
  obtain ⟨ok, hok⟩ : ∃ ok, ok = (decide ((Sp.ofT none la).2 = 0) && decide ((Sp.ofT none lb).2 = 0)) := ⟨_, rfl⟩
  rw [← hok]
  clear hma hmb hoa hob hok hpa hpb hla hlb
  cases ok with
  | false =>
    go_wp2_with fail
    refine (AW.out w2 B2.out).mono ?_
    rintro e w3 ⟨rfl, hb3⟩
    go_wp2
    go_ret
    exact ⟨rfl, B2.out.trans hb3⟩
  | true =>
  have OE := Sp.opened_both PA.out PB.out
  have DO := Lib.hid fun W (e : Ext w2 W) => Opened_calls oa ob ma mb PA.out PB.out (.pointer pa) (.pointer pb) W (TA.out.ext e) (TB.out.ext e) (KK.out.ext (B2.out.trans e)) (max_kept MM.out (B2.out.trans e))
  have DD := Lib.hid fun W (e : Ext w2 W) => Differ_calls oa ob ma mb PA.out PB.out (.pointer pa) (.pointer pb) W (TA.out.ext e) (TB.out.ext e) (KK.out.ext (B2.out.trans e)) (max_kept MM.out (B2.out.trans e))
  have RTA := Lib.hid fun W (e : Ext w2 W) => troot_calls oa (.pointer pa) W (TA.out.ext e) (KK.out.ext (B2.out.trans e))
  have RTB := Lib.hid fun W (e : Ext w2 W) => troot_calls ob (.pointer pb) W (TB.out.ext e) (KK.out.ext (B2.out.trans e))
  have OL := Sp.openS_len oa ob (ma ++ mb) (by have := PA.out.gm.2; have := PB.out.gm.2; rw [List.length_append]; omega) 5 []
  have p5' : (257 : Nat) ^ 5 = 1121154893057 := by decide
  rw [p5', OE] at OL
  have DL : (Sp.differT (oa.getD .nil) (ob.getD .nil)).length ≤ 1121154893057 := Nat.le_trans (List.length_filter_le _ _) OL
  have ND := Lib.hid (Sp.need_opened PA.out PB.out)
  have OS := Lib.hid (Sp.openedT_short PA.out PB.out)
  have DS := Lib.hid (show ∀ p ∈ Sp.differT (oa.getD .nil) (ob.getD .nil), p.length ≤ 51 from fun p hp => Sp.openedT_short PA.out PB.out p (List.mem_filter.1 hp).1)
  obtain ⟨r1, hr1⟩ : ∃ r1, r1 = Sp.nsum (Sp.nodeT (oa.getD .nil)) := ⟨_, rfl⟩
  obtain ⟨r2, hr2⟩ : ∃ r2, r2 = Sp.nsum (Sp.nodeT (ob.getD .nil)) := ⟨_, rfl⟩
  have ON := Lib.hid (show r1 = r2 → (Sp.openedT (oa.getD .nil) (ob.getD .nil)).length = 0 from fun h => by rw [Sp.opened_none (by rw [← hr1, ← hr2]; exact h)]; rfl)
  have OP := Lib.hid (show ¬ r1 = r2 → ∃ n, (Sp.openedT (oa.getD .nil) (ob.getD .nil)).length = n + 1 from fun h => Sp.opened_some (by rw [← hr1, ← hr2]; exact h))
  have hqr := fun W => dig_eqv r1 r2 (by rw [hr1]; exact Sp.nsum_len _) (by rw [hr2]; exact Sp.nsum_len _) W
  have hg := dig_guard
  rw [← hr1] at RTA
  rw [← hr2] at RTB
  obtain ⟨O, hO⟩ : ∃ O, O = Sp.openedT (oa.getD .nil) (ob.getD .nil) := ⟨_, rfl⟩
  obtain ⟨D, hD⟩ : ∃ D, D = Sp.differT (oa.getD .nil) (ob.getD .nil) := ⟨_, rfl⟩
  rw [← hO] at DO OL ND OS ON OP
  rw [← hD] at DD DL ND DS
  have HQ := Lib.hid hqr
  clear OE hO hD p5' PA PB RA RB hr1 hr2 hqr
  go_wp2_with fail
  refine (DO.out w2 (Ext.refl _)).mono ?_
  rintro e w3 ⟨v3, rfl, hO3, hb3⟩
  obtain ⟨A3, c3, rfl, hc3⟩ := own_read hO3
  have N3 := Lib.hid (show Nams w3 A3 O from hc3)
  have B3 := Lib.hid hb3
  clear hO3 hc3 hb3 DO
  go_wp2_with fail
  refine (DD.out w3 B3.out).mono ?_
  rintro e w4 ⟨v4, rfl, hO4, hb4⟩
  obtain ⟨A4, c4, rfl, hc4⟩ := own_read hO4
  have N4 := Lib.hid (show Nams w4 A4 D from hc4)
  have N34 := Lib.hid (N3.out.ext hb4)
  have B4 := Lib.hid (B3.out.trans hb4)
  clear hO4 hc4 hb4 DD N3
  go_wp2_with fail
  refine (RTA.out w4 B4.out).mono ?_
  rintro e w5 ⟨rfl, hb5⟩
  have B5 := Lib.hid (B4.out.trans hb5)
  have N35 := Lib.hid (N34.out.ext hb5)
  have N45 := Lib.hid (N4.out.ext hb5)
  clear hb5 N34 N4 RTA
  go_wp2_with fail
  refine (RTB.out w5 B5.out).mono ?_
  rintro e w6 ⟨rfl, hb6⟩
  have B6 := Lib.hid (B5.out.trans hb6)
  have N3 := Lib.hid (N35.out.ext hb6)
  have N4 := Lib.hid (N45.out.ext hb6)
  clear hb6 N35 N45 RTB
  obtain ⟨bb, hbb⟩ : ∃ bb, bb = (r1 == r2) := ⟨_, rfl⟩
  have hq := HQ.out
  rw [← hbb] at hq
  have o0 : ((O.length : Int) == 0) = bb := by
    by_cases hrr : r1 = r2
    · rw [ON.out hrr, hbb, hrr, beq_self_eq_true]; rfl
    · obtain ⟨n, hn⟩ := OP.out hrr
      rw [hbb, show (r1 == r2) = false by rw [beq_eq_false_iff_ne]; exact hrr, beq_eq_false_iff_ne]
      omega
  have o1 : (bb == bb) = true := beq_self_eq_true _
  have o2 : (bb != bb) = false := by simp
  clear hbb ON OP HQ
  go_wp2
  clear hq o0 o1 o2
  go_loopw [10] (fun v10 wr => ∃ i : Nat, i ≤ O.length ∧ v10 = .int .i64 i ∧ Ext w6 wr) (fun v10 _ => O.length - (intOf v10).toNat)
  case atStart => exact ⟨0, Nat.zero_le _, rfl, Ext.refl _⟩
  case round =>
    obtain ⟨i, hi, rfl, hb⟩ := hrel
    have HB := Lib.hid hb
    clear hb
    by_cases hlt : i < O.length
    · obtain ⟨g, o, rfl, hat⟩ := N3.out.at (by omega)
      have C0 := Lib.hid (hat i hlt)
      have OM := Lib.hid (ND.out O[i] (List.getElem_mem hlt))
      have xs := OS.out O[i] (List.getElem_mem hlt)
      obtain ⟨x, hx⟩ : ∃ x, x = O[i] := ⟨_, rfl⟩
      rw [← hx] at C0 OM xs
      have b1 : (i : Int) < (O.length : Int) := by omega
      clear hat hx
      go_wp2
      go_loopw [11, 12] (fun v11 v12 wr2 => ∃ k : Nat, k ≤ D.length ∧ v12 = .int .i64 k ∧ v11 = .bool ((D.take k).any fun p => (x == p) || Sp.under p x) ∧ Ext w6 wr2) (fun _ v12 _ => D.length - (intOf v12).toNat)
      case atStart => exact ⟨0, Nat.zero_le _, rfl, rfl, HB.out⟩
      case round =>
        obtain ⟨k, hk, rfl, rfl, hb2⟩ := hrel
        have HB2 := Lib.hid hb2
        by_cases hlt2 : k < D.length
        · obtain ⟨g', o', rfl, hat⟩ := N4.out.at (by omega)
          have D0 := Lib.hid (hat k hlt2)
          have AT := Lib.hid (Sp.any_take (fun p => (x == p) || Sp.under p x) D k hlt2)
          have ys := DS.out D[k] (List.getElem_mem hlt2)
          obtain ⟨y, hy⟩ : ∃ y, y = D[k] := ⟨_, rfl⟩
          rw [← hy] at D0 AT ys
          obtain ⟨b, hbq⟩ : ∃ b, b = (D.take k).any fun p => (x == p) || Sp.under p x := ⟨_, rfl⟩
          rw [← hbq] at AT ⊢
          have b2 : (k : Int) < (D.length : Int) := by omega
          have UC := Lib.hid fun W => under_calls y x W (by omega) (by omega)
          obtain ⟨u, hu⟩ : ∃ u, u = Sp.under y x := ⟨_, rfl⟩
          rw [← hu] at UC AT
          clear hat hb2 hy hbq hu
          cases b with
          | true =>
            have A2 := Lib.hid (show ((D.take (k + 1)).any fun p => (x == p) || Sp.under p x) = true by rw [AT.out]; rfl)
            clear AT
            go_wp2_with fail
            refine wp_region_det (fun W => Ext wr W) (by kernel_rfl) (by kernel_rfl) (Below.refl _ _).drew ?_
            repeat (first
              | (refine det_step (fun K hK => ?_)
                 apply Exists.intro
                 refine ⟨Or.inl ⟨rfl, fun W hS => ?_⟩, ?_⟩
                 · replace hS : Ext wr W := hS
                   skip
                   go_simp
                   first
                   | exact rfl
                   | exact ⟨rfl, hS⟩
                   | (fail)
                 go_simp
                 refine hK _ ?_
                 clear hK K)
              | (refine det_step (fun K hK => ?_); refine det_no' rfl ?_; go_simp; refine hK _ ?_; clear hK K))
            refine det_nil ?_
            intro W9 hS
            replace hS : Ext _ W9 := hS
            go_wp2
            go_roundw
            case rel => exact ⟨k + 1, by omega, by go_num, by rw [A2.out], HB2.out.trans hS⟩
            case measure => simp [intOf]; omega
          | false =>
            by_cases hxy : x = y
            · have q1 : (x == y) = true := by rw [hxy]; exact beq_self_eq_true _
              have A2 := Lib.hid (show ((D.take (k + 1)).any fun p => (x == p) || Sp.under p x) = true by rw [AT.out, hxy]; simp)
              clear AT hxy
              go_wp2_with fail
              refine wp_region_det (fun W => Ext wr W) (by kernel_rfl) (by kernel_rfl) (Below.refl _ _).drew ?_
              repeat (first
                | (refine det_step (fun K hK => ?_)
                   apply Exists.intro
                   refine ⟨Or.inl ⟨rfl, fun W hS => ?_⟩, ?_⟩
                   · replace hS : Ext wr W := hS
                     have f0 := (HB2.out.trans hS).cell C0.out; have f1 := (HB2.out.trans hS).cell D0.out
                     go_simp
                     first
                     | exact rfl
                     | exact ⟨rfl, hS⟩
                     | (fail)
                   go_simp
                   refine hK _ ?_
                   clear hK K)
                | (refine det_step (fun K hK => ?_); refine det_no' rfl ?_; go_simp; refine hK _ ?_; clear hK K))
              refine det_nil ?_
              intro W9 hS
              replace hS : Ext _ W9 := hS
              go_wp2
              go_roundw
              case rel => exact ⟨k + 1, by omega, by go_num, by rw [A2.out], HB2.out.trans hS⟩
              case measure => simp [intOf]; omega
            · have q1 : (x == y) = false := by rw [beq_eq_false_iff_ne]; exact hxy
              have A2 := Lib.hid (show ((D.take (k + 1)).any fun p => (x == p) || Sp.under p x) = u by rw [AT.out, q1]; simp)
              clear AT hxy
              go_wp2_with fail
              refine wp_region_det (fun W => Ext wr W) (by kernel_rfl) (by kernel_rfl) (Below.refl _ _).drew ?_
              repeat (first
                | (refine det_step (fun K hK => ?_)
                   apply Exists.intro
                   refine ⟨Or.inl ⟨rfl, fun W hS => ?_⟩, ?_⟩
                   · replace hS : Ext wr W := hS
                     have f0 := (HB2.out.trans hS).cell C0.out; have f1 := (HB2.out.trans hS).cell D0.out
                     go_simp
                     first
                     | exact rfl
                     | exact ⟨rfl, hS⟩
                     | (refine (UC.out W).mono ?_; rintro e w9 ⟨rfl, hb9⟩; exact ⟨rfl, hS.trans hb9⟩)
                   go_simp
                   refine hK _ ?_
                   clear hK K)
                | (refine det_step (fun K hK => ?_); refine det_no' rfl ?_; go_simp; refine hK _ ?_; clear hK K))
              refine det_nil ?_
              intro W9 hS
              replace hS : Ext _ W9 := hS
              go_wp2
              go_roundw
              case rel => exact ⟨k + 1, by omega, by go_num, by rw [A2.out], HB2.out.trans hS⟩
              case measure => simp [intOf]; omega
        · obtain rfl : k = D.length := by omega
          rw [List.take_length, OM.out]
          clear hb2
          go_wp2
          go_roundw
          case rel => exact ⟨i + 1, by omega, by go_num, HB2.out⟩
          case measure => simp [intOf]; omega
    · obtain rfl : i = O.length := by omega
      go_wp2_with fail
      refine (AW.out _ (B2.out.trans (B6.out.trans HB.out))).mono ?_
      rintro e w11 ⟨rfl, hb11⟩
      go_wp2
      go_ret
      exact ⟨rfl, (B2.out.trans (B6.out.trans HB.out)).trans hb11⟩
end Go.Proofs.YtmlfnidckfeebaaGreatDoor
