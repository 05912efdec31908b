/- Watching: the example of chapter 46. Walks: WatchFollows. Entries that come in. -/
import Derived.Deep.SlicePairs
import Derived.Carry
import Derived.WideShapes
import Derived.ChangeArms
import Derived.OpenShut
import Derived.MakeChecks
import Derived.Test.YtmlfnidckfeebaaGreatDoorRF027
namespace Go.Proofs.YtmlfnidckfeebaaGreatDoor
open Go.RowKit Go.Shelf
attribute [local go_sem] yUpon strOf_toList
namespace Sp
def e46V : Ver := ⟨(0, 1), [], false, [120]⟩
def e46T : T := .mk [] [([97], .mk [e46V] [])]
def e46X : List DE := [([97], [e46V])]
theorem e46_of : ofT none e46X = (some e46T, 0) := by kernel_rfl
theorem e46_roots : nsum (nodeT .nil) ≠ nsum (nodeT e46T) := by decide +kernel
theorem e46_between : betweenS .nil e46T = [⟨[97], 1, [], [120]⟩] := by
  obtain ⟨z, hz⟩ : ∃ z, z = nsum (nodeT (.mk [e46V] [])) := ⟨_, rfl⟩
  have a0 : nodeS .nil [] = ([], []) := by rfl
  have b0 : nodeS e46T [] = ([], [([97], z)]) := by rw [hz]; rfl
  have a1 : nodeS .nil [97] = ([], []) := by rfl
  have b1 : nodeS e46T [97] = ([e46V], []) := by rfl
  have k0 : kids2 [] [([97], z)] = [([97], false, true, z32, z)] := by rw [kids2, kids2]
  have k2 : kids2 [] [] = [] := by rw [kids2]
  have d1 : down [] [97] = [97] := rfl
  have ho : openedT .nil e46T = [[], [97]] := by
    unfold openedT
    rw [if_neg e46_roots]
    simp [openT, a0, b0, a1, b1, k0, k2, d1, differ2]
  have h0 : leafdiff .nil e46T [] = false := by rfl
  have h1 : leafdiff .nil e46T [97] = true := by rfl
  have hd : differT .nil e46T = [[97]] := by
    unfold differT
    rw [ho]
    simp [h0, h1]
  unfold betweenS
  rw [hd]
  rfl
end Sp
theorem ents_one {w : World} {g gv : Nat} {p : Sp.Bs} {v : Sp.Ver} (h : isBlk w g 43 #[.string (strOf p), .slice (some ⟨gv, 0, none⟩) 1 1]) (hv : Vers w (some ⟨gv, 0, none⟩) [v]) : EntsAt w (some ⟨g, 0, none⟩) [(p, [v])] :=
  ⟨[(some ⟨gv, 0, none⟩, 1, (p, [v]))], rfl, fun _ => ⟨g, 0, rfl, fun i u hi => by
    rw [Nat.zero_add, h.cell i]
    rw [show entsC [(some (⟨gv, 0, none⟩ : Addr), 1, ((p, [v]) : Sp.DE))] = [.string (strOf p), .slice (some ⟨gv, 0, none⟩) 1 1] from rfl] at hi
    simpa using hi⟩, fun x hx => by
    simp only [List.mem_cons, List.not_mem_nil, or_false] at hx
    subst hx
    exact hv⟩
set_option maxRecDepth 100000 in
set_option maxHeartbeats 8000000 in
theorem awake46_calls (w : World) (K : KeysAt w 2) (M : MaxAt w) :
    Calls Tryz.prog 49 #[] w fun e w' => e = .returned (.bool true) ∧ Ext w w' := by
  have KK := Lib.hid K
  have MM := Lib.hid M
  have tok : True := trivial
  have tokE : True := trivial
  clear K M
  go_enter Tryz.func49, Tryz.ntmps49
  go_wp2_with (first
    | (have _t := tok; (with_reducible refine at_bslice rfl ?_); refine bslice_new rfl 41 71 _ rfl appVer (by decide) (verC none 0 Sp.e46V) rfl rfl ?_; intro gv wv hgv hxv hbv; have XV := Lib.hid hxv; have BV := Lib.hid hbv; clear tok _t hgv hxv hbv)
    | (have _t := tokE; (with_reducible refine at_bslice rfl ?_); refine bslice_new rfl 22 43 _ rfl appEnt (by decide) #[.string (strOf [97]), .slice (some ⟨gv, 0, none⟩) 1 1] rfl rfl ?_; intro ge w1 hge hx1 hb1; have X1 := Lib.hid hx1; have E1 := Lib.hid hb1; clear tokE _t hge hx1 hb1))
  have V1 := Lib.hid (vers_e18 Sp.e46V rfl (XV.out.below E1.out))
  have HE := ents_one X1.out V1.out
  have B1 := Lib.hid (BV.out.trans E1.out)
  have OC := Lib.hid (of_calls Sp.e46X (some ⟨ge, 0, none⟩) 1 w1 HE (by decide) (KK.out.ext B1.out) (max_kept MM.out B1.out))
  rw [Sp.e46_of] at OC
  clear HE
  refine OC.out.mono ?_
  rintro e w2 ⟨v2, rfl, ht2, hb2⟩
  obtain ⟨pa, rfl⟩ := tree_ptr ht2
  have T2 := Lib.hid ht2
  have B2 := Lib.hid (B1.out.trans hb2)
  clear ht2 hb2 OC V1 X1
  have PB := Lib.hid (Sp.both_of Sp.e46X)
  rw [Sp.e46_of] at PB
  have D1 := Lib.hid (wbetween_calls none (some Sp.e46T) [] _ Sp.both_none PB.out (.pointer none) (.pointer pa) w2 (.inl ⟨rfl, rfl⟩) T2.out (KK.out.ext B2.out) (max_kept MM.out B2.out))
  simp only [Option.getD_some, Option.getD_none] at D1
  rw [Sp.e46_between] at D1
  clear PB
  go_wp2_with fail
  refine D1.out.mono ?_
  rintro e w3 ⟨v3, rfl, hO3, hb3⟩
  obtain ⟨A3, c3, rfl, hc3⟩ := own_read hO3
  obtain ⟨g, o, rfl, hat⟩ := chg_at hc3 (by decide)
  obtain ⟨c0, c1, c2, c4⟩ := hat 0 (by decide)
  simp only [Nat.zero_mul, Nat.add_zero, List.getElem_cons_zero] at c0 c1 c2 c4
  have B3 := Lib.hid (B2.out.trans hb3)
  clear hO3 hc3 hat hb3 D1
  go_wp2
  go_ret
  exact ⟨rfl, B3.out⟩
namespace Sp
theorem look_all (l : List Chg) : (l.filter fun c => inD [] c.path) = l := by
  rw [List.filter_eq_self]
  intro c _
  rfl
theorem notes_take (L : List Chg) (k : Nat) (h : k < L.length) : (L.take (k + 1)).foldl noteS [] = noteS ((L.take k).foldl noteS []) L[k] := by
  rw [List.take_succ_eq_append_getElem h, List.foldl_append]
  rfl
theorem note_len (F : List Fl) (c : Chg) : (noteS F c).length ≤ F.length + 1 := by
  unfold noteS
  rw [List.length_append]
  have := List.length_filter_le (fun f : Fl => !decide (f.1 = c.path)) F
  split
  · simp; omega
  · simp; omega
theorem notes_len (L : List Chg) (k : Nat) : ((L.take k).foldl noteS []).length ≤ (L.take k).length := by
  have : ∀ (l : List Chg) (F : List Fl), (l.foldl noteS F).length ≤ F.length + l.length := fun l => by
    induction l with
    | nil => intro F; exact Nat.le_refl _
    | cons c r ih =>
      intro F
      have h1 := ih (noteS F c)
      have h2 := note_len F c
      rw [List.foldl_cons, List.length_cons]
      omega
  have h := this (L.take k) []
  simpa using h
theorem drop_take (F : List Fl) (p : Bs) (j : Nat) (h : j < F.length) : ((F.take (j + 1)).filter fun f => !decide (f.1 = p)) = ((F.take j).filter fun f => !decide (f.1 = p)) ++ if F[j].1 = p then [] else [F[j]] := by
  rw [List.take_succ_eq_append_getElem h, List.filter_append]
  congr 1
  by_cases hp : F[j].1 = p <;> simp [hp]
theorem notes_mem (n : Nat) : ∀ (L : List Chg) (F : List Fl), (∀ f ∈ F, f.1.length ≤ n) → (∀ c ∈ L, c.path.length ≤ n) → ∀ f ∈ L.foldl noteS F, f.1.length ≤ n
  | [], _, hF, _ => hF
  | c :: r, F, hF, hL => by
    refine notes_mem n r (noteS F c) (fun f hf => ?_) fun x hx => hL x (List.mem_cons_of_mem _ hx)
    unfold noteS at hf
    rcases List.mem_append.1 hf with h | h
    · exact hF f (List.mem_filter.1 h).1
    · split at h
      · cases h
      · rw [List.mem_singleton.1 h]
        exact hL c (List.mem_cons_self ..)
theorem between_short {oa ob : Option T} {ma mb : List DE} (PA : Both oa ma) (PB : Both ob mb) : ∀ c ∈ betweenS (oa.getD .nil) (ob.getD .nil), c.path.length ≤ 51 := fun c hc => by
  unfold betweenS betweenL at hc
  obtain ⟨p, hp, h2⟩ := List.mem_filterMap.1 hc
  unfold changeS at h2
  split at h2
  · cases h2
  · cases h2
    exact (check_parts (differ_dir PA PB p hp).1).2.1
theorem follow_ok {oa ob : Option T} {ma mb : List DE} (PA : Both oa ma) (PB : Both ob mb) (h0 : clashS (textsT ((none : Option T).getD .nil) ++ textsT (oa.getD .nil)) = false) (h1 : clashS (textsT (oa.getD .nil) ++ textsT (ob.getD .nil)) = false) :
    ((betweenS ((none : Option T).getD .nil) (oa.getD .nil) ++ betweenS (oa.getD .nil) (ob.getD .nil)).foldl noteS []).length = (shownM mb).length ∧ ∀ f ∈ (betweenS ((none : Option T).getD .nil) (oa.getD .nil) ++ betweenS (oa.getD .nil) (ob.getD .nil)).foldl noteS [], readS mb f.1 = (f.2, 0) := by
  rw [List.foldl_append]
  have s1 := follow_step both_none PA (clash_no h0) holds_nil
  have s2 := follow_step PA PB (clash_no h1) s1
  obtain ⟨h2, h3⟩ := holds_shown PB s2
  refine ⟨h2, fun f hf => ?_⟩
  obtain ⟨k1, k2, k3⟩ := h3 f hf
  have hl : ¬ live (rget mb f.1) = [] := fun e => k2 (by unfold winner; rw [e])
  unfold readS
  rw [if_pos k1, if_neg hl, k3]
end Sp
theorem ents_nil (w : World) : EntsAt w none [] := ⟨[], rfl, Cells.nil _ _, fun x hx => by cases hx⟩
theorem chgsC_one : ∀ l : List Sp.Chg, ∀ u ∈ chgsC l, u.oneCell' = true
  | [], u, hu => by cases hu
  | c :: r, u, hu => by
    rcases List.mem_append.1 (show u ∈ (chgC c).toList ++ chgsC r from hu) with h | h
    · exact chg_one c u h
    · exact chgsC_one r u h
set_option maxRecDepth 100000 in
set_option maxHeartbeats 16000000 in
theorem watchFollows_calls (la lb : List Sp.DE) (A B : Option Addr) (cap cap' : Nat) (w : World) (hA : EntsAt w A la) (hB : EntsAt w B lb) (K : KeysAt w 2) (K2 : KeysAt w 0) (M : MaxAt w) :
    Calls Tryz.prog 11 #[.slice A la.length cap, .slice B lb.length cap'] w fun e w' => e = .returned (.bool true) ∧ Ext w w' := by
  have KK := Lib.hid K
  have KK2 := Lib.hid K2
  have MM := Lib.hid M
  have HA := Lib.hid hA
  have HB := Lib.hid hB
  have AW := Lib.hid fun W (e : Ext w W) => awake46_calls W (K.ext e) (max_kept M e)
  clear K K2 M hA hB
  go_enter Tryz.func11, Tryz.ntmps11
  go_wp2_with fail
  refine (great18_calls la lb A B cap cap' w HA.out HB.out).mono ?_
  rintro e w1 ⟨b, rfl, hgr, hb1⟩
  have B1 := Lib.hid (show Ext w w1 from hb1)
  have GR := Lib.hid hgr
  clear hb1 hgr
  cases b with
  | true =>
    go_wp2_with fail
    refine (AW.out w1 B1.out).mono ?_
    rintro e w2 ⟨rfl, hb2⟩
    go_wp2
    go_ret
    exact ⟨rfl, B1.out.trans hb2⟩
  | false =>
  obtain ⟨⟨hla, hpa⟩, hlb, hpb⟩ := GR.out (by first | rfl | trivial)
  clear GR
  go_wp2_with fail
  refine (of_calls la A cap w1 (HA.out.ext B1.out) (by omega) (KK.out.ext B1.out) (max_kept MM.out B1.out)).mono ?_
  rintro e w3 ⟨v3, rfl, ht3, hb3⟩
  obtain ⟨pa, rfl⟩ := tree_ptr ht3
  have T3 := Lib.hid ht3
  have B3 := Lib.hid (B1.out.trans hb3)
  clear ht3 hb3
  go_wp2_with fail
  refine (of_calls lb B cap' w3 (HB.out.ext B3.out) (by omega) (KK.out.ext B3.out) (max_kept MM.out B3.out)).mono ?_
  rintro e w2 ⟨v4, rfl, ht4, hb4⟩
  obtain ⟨pb, rfl⟩ := tree_ptr ht4
  have TB := Lib.hid ht4
  have TA := Lib.hid (T3.out.ext hb4)
  have B2 := Lib.hid (B3.out.trans hb4)
  clear ht4 hb4 T3
  have PA := Lib.hid (Sp.both_of la)
  have PB := Lib.hid (Sp.both_of lb)
  obtain ⟨ma, hma⟩ : ∃ ma, ma = (Sp.rof [] la).1 := ⟨_, rfl⟩
  obtain ⟨mb, hmb⟩ : ∃ mb, mb = (Sp.rof [] lb).1 := ⟨_, rfl⟩
  rw [← hma] at PA
  rw [← hmb] at PB
  obtain ⟨oa, hoa⟩ : ∃ oa, oa = (Sp.ofT none la).1 := ⟨_, rfl⟩
  obtain ⟨ob, hob⟩ : ∃ ob, ob = (Sp.ofT none lb).1 := ⟨_, rfl⟩
  rw [← hoa] at PA TA
  rw [← hob] at PB TB
  obtain ⟨ca, hca⟩ : ∃ ca, ca = (Sp.ofT none la).2 := ⟨_, rfl⟩
  obtain ⟨cb, hcb⟩ : ∃ cb, cb = (Sp.ofT none lb).2 := ⟨_, rfl⟩
  rw [← hca, ← hcb]
  clear hma hmb hoa hob hca hcb hpa hpb hla hlb
  by_cases ha0 : ca = 0
  case neg =>
    have q1 : (ca == 0) = false := by rw [beq_eq_false_iff_ne]; exact ha0
    clear ha0
    go_wp2_with fail
    refine (AW.out w2 B2.out).mono ?_
    rintro e w3 ⟨rfl, hb3⟩
    go_wp2
    go_ret
    exact ⟨rfl, B2.out.trans hb3⟩
  by_cases hb0 : cb = 0
  case neg =>
    subst ha0
    have q1 : (cb == 0) = false := by rw [beq_eq_false_iff_ne]; exact hb0
    clear hb0
    go_wp2_with fail
    refine (AW.out w2 B2.out).mono ?_
    rintro e w3 ⟨rfl, hb3⟩
    go_wp2
    go_ret
    exact ⟨rfl, B2.out.trans hb3⟩
  subst ha0 hb0
  have EA := Lib.hid fun W (e : Ext w2 W) => entries_calls oa (.pointer pa) W (TA.out.ext e) PA.out.go PA.out.short (KK.out.ext (B2.out.trans e))
  have EB := Lib.hid fun W (e : Ext w2 W) => entries_calls ob (.pointer pb) W (TB.out.ext e) PB.out.go PB.out.short (KK.out.ext (B2.out.trans e))
  rw [PA.out.told] at EA
  rw [PB.out.told] at EB
  have LL : ∀ oa ob ma mb, Sp.Both oa ma → Sp.Both ob mb → (Sp.betweenS (oa.getD .nil) (ob.getD .nil)).length ≤ 1121154893057 := fun oa ob ma mb PA PB => by
    have OL := Sp.openS_len oa ob (ma ++ mb) (by have := PA.gm.2; have := PB.gm.2; rw [List.length_append]; omega) 5 []
    have p5' : (257 : Nat) ^ 5 = 1121154893057 := by decide
    rw [p5', Sp.opened_both PA PB] at OL
    exact Nat.le_trans (Nat.le_trans (Sp.between_len _ _ _) (List.length_filter_le _ _)) OL
  have L0 := LL none oa [] ma Sp.both_none PA.out
  have L1 := LL oa ob ma mb PA.out PB.out
  have NW := Lib.hid (wnew_calls [] none w2 (max_kept MM.out B2.out))
  have LK0 := Lib.hid fun g W (e : Ext w2 W) (hx : isBlk W g 167 (watC [] (.pointer none) 0)) => wlook_calls none oa [] ma Sp.both_none PA.out (.pointer none) (.pointer pa) g [] (by decide) 0 (by decide) W hx (.inl ⟨rfl, rfl⟩) (TA.out.ext e) (KK.out.ext (B2.out.trans e)) (max_kept MM.out (B2.out.trans e))
  have LK1 := Lib.hid fun n (hn : n ≤ 1000000000000000) g W (e : Ext w2 W) (hx : isBlk W g 167 (watC [] (.pointer pa) n)) => wlook_calls oa ob ma mb PA.out PB.out (.pointer pa) (.pointer pb) g [] (by decide) n hn W hx (TA.out.ext e) (TB.out.ext e) (KK.out.ext (B2.out.trans e)) (max_kept MM.out (B2.out.trans e))
  simp only [Sp.look_all] at LK0 LK1
  obtain ⟨R0, hR0⟩ : ∃ R, R = Sp.betweenS ((none : Option Sp.T).getD .nil) (oa.getD .nil) := ⟨_, rfl⟩
  obtain ⟨R1, hR1⟩ : ∃ R, R = Sp.betweenS (oa.getD .nil) (ob.getD .nil) := ⟨_, rfl⟩
  rw [← hR0] at LK0 L0
  rw [← hR1] at LK1 L1
  have HR0 := Lib.hid hR0
  have HR1 := Lib.hid hR1
  clear LL hR0 hR1
  go_wp2_with fail
  refine NW.out.mono ?_
  rintro e w3 ⟨r3, rfl, hcase, hb3⟩
  obtain ⟨g, hg, rfl, hX3⟩ : ∃ g, w2.heap.size ≤ g ∧ r3 = .pointer (some ⟨g, 0, none⟩) ∧ isBlk w3 g 167 (watC [] (.pointer none) 0) := by
    rcases hcase with ⟨_, h⟩ | ⟨h, _⟩
    · exact h
    · cases h
  have GB := Lib.hid hg
  have X3 := Lib.hid hX3
  have E3 := Lib.hid hb3
  clear hcase hg hX3 hb3 NW
  go_wp2_with fail
  refine (LK0.out g w3 E3.out X3.out).mono ?_
  rintro e w4 ⟨v4, rfl, hO4, hX4, hk4⟩
  rw [Nat.zero_add] at hX4
  have O4 := Lib.hid hO4
  have X4 := Lib.hid hX4
  have E4 := Lib.hid (show Ext w2 w4 from Below.trans E3.out (hk4.below.mono GB.out))
  clear hO4 hX4 hk4 LK0 X3
  go_wp2_with fail
  refine (LK1.out R0.length (by omega) g w4 E4.out X4.out).mono ?_
  rintro e w5 ⟨v5, rfl, hO5, hX5, hk5⟩
  have O45 := Lib.hid (own_keep (T := watT) (by decide) O4.out hk5)
  have O5 := Lib.hid hO5
  have E5 := Lib.hid (show Ext w2 w5 from Below.trans E4.out (hk5.below.mono GB.out))
  clear hO5 hX5 hk5 LK1 X4 O4
  obtain ⟨A5, c5, rfl, hc5⟩ := own_read O5.out
  have C5 := Lib.hid hc5
  have tokA : True := trivial
  have GE := Lib.hid E3.out.size
  clear hc5
  go_wp2_with (have _t := tokA; at_builtin; refine app_cells appChg rfl _ _ rfl w2.heap.size _ R0.length _ rfl (own_lowT O45.out GE.out) A5 R1.length c5 (chgsC R1) rfl (chgsC_len R1) C5.out (chgsC_one R1) (by omega) E5.out.size ?_; intro v6 w6 hown6 hgr6 hb6; have O6 := Lib.hid (show w6.ownsRow w2.heap.size 88 4 v6 (R0.length + R1.length) (chgsC R0 ++ chgsC R1) from hown6); have E6 := Lib.hid (show Ext w2 w6 from Below.trans E5.out hb6); clear tokA _t hown6 hgr6 hb6)
  have LS : (R0 ++ R1).length = R0.length + R1.length := List.length_append
  have LB : (R0 ++ R1).length ≤ 2242309786114 := by omega
  rw [← chgsC_append, ← LS] at O6
  obtain ⟨A6, c6, rfl, hc6⟩ := own_read O6.out
  have C6 := Lib.hid hc6
  obtain ⟨L, hL⟩ : ∃ L, L = R0 ++ R1 := ⟨_, rfl⟩
  rw [← hL] at C6 O6 LB ⊢
  have HL := Lib.hid hL
  clear hc6 C5 O5 O45 LS hL
  have NT := Lib.hid fun k h => Sp.notes_take L k h
  have NL := Lib.hid fun k => Sp.notes_len L k
  have FO := Lib.hid (show Sp.clashS (Sp.textsT ((none : Option Sp.T).getD .nil) ++ Sp.textsT (oa.getD .nil)) = false → Sp.clashS (Sp.textsT (oa.getD .nil) ++ Sp.textsT (ob.getD .nil)) = false → (L.foldl Sp.noteS []).length = (Sp.shownM mb).length ∧ ∀ f ∈ L.foldl Sp.noteS [], Sp.readS mb f.1 = (f.2, 0) from fun h0 h1 => by
    rw [HL.out, HR0.out, HR1.out]
    exact Sp.follow_ok PA.out PB.out h0 h1)
  have FS := Lib.hid (show ∀ f ∈ L.foldl Sp.noteS [], f.1.length ≤ 51 from Sp.notes_mem 51 L [] (fun f hf => by cases hf) fun c hc => by
    rw [HL.out] at hc
    rcases List.mem_append.1 hc with h | h
    · rw [HR0.out] at h; exact Sp.between_short Sp.both_none PA.out c h
    · rw [HR1.out] at h; exact Sp.between_short PA.out PB.out c h)
  have SA := Lib.hid fun A c W (h : EntsAt W A mb) => rshown_calls mb A c W h (Nat.le_trans PB.out.gm.2 (by decide)) (Sp.told_leaf PB.out.eq PB.out.go)
  have RD := Lib.hid fun A c p (hp : p.length ≤ 1000) W (h : EntsAt W A mb) => rread_calls mb (Sp.rget_short PB.out) (Nat.le_trans PB.out.gm.2 (by decide)) A c p hp W h
  have CL := Lib.hid fun A B c c' W (e : Ext w W) hA hB => clash18_calls oa ob ma mb PA.out PB.out A B c c' W hA hB (KK2.out.ext e)
  have C0 := Lib.hid fun A B c c' W (e : Ext w W) hA hB => clash18_calls none oa [] ma Sp.both_none PA.out A B c c' W hA hB (KK2.out.ext e)
  have sl : (Sp.shownM mb).length ≤ mb.length := Sp.shownM_len mb
  have ml := PB.out.gm.2
  clear PA PB O6
  go_loopw [10, 12] (fun v10 v12 wr => ∃ k : Nat, k ≤ L.length ∧ v12 = .int .i64 k ∧ wr.ownsRow w6.heap.size 86 2 v10 ((L.take k).foldl Sp.noteS []).length (filesC ((L.take k).foldl Sp.noteS [])) ∧ Ext w6 wr) (fun _ v12 _ => L.length - (intOf v12).toNat)
  case atStart => exact ⟨0, Nat.zero_le _, rfl, World.ownsRow_nil _ _ _ _, Ext.refl _⟩
  case round =>
    obtain ⟨k, hk, rfl, hO, hb⟩ := hrel
    obtain ⟨wo, hwo⟩ : ∃ wo, wo = wr := ⟨_, rfl⟩
    subst hwo
    have HX := Lib.hid hb
    obtain ⟨A10, c10, rfl, hc10⟩ := own_read hO
    have C10 := Lib.hid hc10
    clear hO hc10
    by_cases hlt : k < L.length
    · obtain ⟨gc, oc, rfl, hc⟩ := chg_at (C6.out.ext hb) (by omega)
      obtain ⟨c0, c1, c2, c3⟩ := hc k hlt
      have ST := Lib.hid (NT.out k hlt)
      have fl := NL.out k
      obtain ⟨x, hx⟩ : ∃ x, x = L[k] := ⟨_, rfl⟩
      rw [← hx] at c0 c1 c2 c3 ST
      obtain ⟨F, hF⟩ : ∃ F, F = (L.take k).foldl Sp.noteS [] := ⟨_, rfl⟩
      rw [← hF] at C10 ST fl ⊢
      have D0 := Lib.hid c0
      have D1 := Lib.hid c1
      have D3 := Lib.hid c3
      have kb : (k : Int) < (L.length : Int) := by omega
      have fl2 : F.length ≤ k := Nat.le_trans fl (by rw [List.length_take]; omega)
      have DT := Lib.hid fun j h => Sp.drop_take F x.path j h
      clear c0 c1 c2 c3 hc hx hF hb fl
      go_wp2
      go_loopw [13, 14] (fun v13 v14 wr => ∃ j : Nat, j ≤ F.length ∧ v14 = .int .i64 j ∧ wr.ownsRow wo.heap.size 86 2 v13 ((F.take j).filter fun f => !decide (f.1 = x.path)).length (filesC ((F.take j).filter fun f => !decide (f.1 = x.path))) ∧ Ext wo wr) (fun _ v14 _ => F.length - (intOf v14).toNat)
      case atStart => exact ⟨0, Nat.zero_le _, rfl, World.ownsRow_nil _ _ _ _, Ext.refl _⟩
      case round =>
        obtain ⟨j, hj, rfl, hO, hb⟩ := hrel
        have HI := Lib.hid hb
        have HO := Lib.hid hO
        clear hO
        by_cases hjl : j < F.length
        · obtain ⟨gf, of, rfl, hf⟩ := file_at (C10.out.ext hb) (by omega)
          obtain ⟨f0, f1⟩ := hf j hjl
          have SJ := Lib.hid (DT.out j hjl)
          have ql : ((F.take j).filter fun f => !decide (f.1 = x.path)).length ≤ j := Nat.le_trans (List.length_filter_le _ _) (List.length_take_le _ _)
          obtain ⟨y, hy⟩ : ∃ y, y = F[j] := ⟨_, rfl⟩
          rw [← hy] at f0 f1 SJ
          obtain ⟨q, hq⟩ : ∃ q, q = (F.take j).filter fun f => !decide (f.1 = x.path) := ⟨_, rfl⟩
          rw [← hq] at HO SJ ql
          have F0 := Lib.hid f0
          have F1 := Lib.hid f1
          have jb : (j : Int) < (F.length : Int) := by omega
          clear f0 f1 hf hy hq hb
          by_cases hp : y.1 = x.path
          · have q1 : (y.1 == x.path) = true := beq_iff_eq.2 hp
            have SN := Lib.hid (show ((F.take (j + 1)).filter fun f => !decide (f.1 = x.path)) = q by rw [SJ.out, if_pos hp, List.append_nil])
            clear hp SJ
            go_wp2_with fail
            refine wp_region_det (fun W => Ext wr W) (by kernel_rfl) (by kernel_rfl) (Below.refl _ _).drew ?_
            repeat (first
              | (refine det_step (fun K hK => ?_)
                 apply Exists.intro
                 refine ⟨Or.inl ⟨rfl, fun W hS => ?_⟩, ?_⟩
                 · replace hS : Ext wr W := hS
                   have z0 := hS.cell F0.out; have z1 := hS.cell (HI.out.cell D0.out)
                   go_simp
                   first
                   | exact rfl
                   | exact ⟨rfl, hS⟩
                   | (fail)
                 go_simp
                 refine hK _ ?_
                 clear hK K)
              | (refine det_step (fun K hK => ?_); refine det_no' rfl ?_; go_simp; refine hK _ ?_; clear hK K))
            refine det_nil ?_
            intro W9 hS
            replace hS : Ext _ W9 := hS
            go_wp2
            go_roundw
            case rel => exact ⟨j + 1, by omega, by go_num, by rw [SN.out]; exact own_ext HO.out hS, HI.out.trans hS⟩
            case measure => simp [intOf]; omega
          · have q1 : (y.1 == x.path) = false := by rw [beq_eq_false_iff_ne]; exact hp
            have SN := Lib.hid (show ((F.take (j + 1)).filter fun f => !decide (f.1 = x.path)) = q ++ [y] by rw [SJ.out, if_neg hp])
            clear hp SJ
            go_wp2_with fail
            refine wp_region_det (fun W => Ext wr W) (by kernel_rfl) (by kernel_rfl) (Below.refl _ _).drew ?_
            repeat (first
              | (refine det_step (fun K hK => ?_)
                 apply Exists.intro
                 refine ⟨Or.inl ⟨rfl, fun W hS => ?_⟩, ?_⟩
                 · replace hS : Ext wr W := hS
                   have z0 := hS.cell F0.out; have z1 := hS.cell (HI.out.cell D0.out)
                   go_simp
                   first
                   | exact rfl
                   | exact ⟨rfl, hS⟩
                   | (fail)
                 go_simp
                 refine hK _ ?_
                 clear hK K)
              | (refine det_step (fun K hK => ?_); refine det_no' rfl ?_; go_simp; refine hK _ ?_; clear hK K))
            refine det_nil ?_
            intro W9 hS
            replace hS : Ext _ W9 := hS
            have z0 := hS.cell F0.out
            have z1 := hS.cell F1.out
            have EV := Lib.hid (HI.out.trans hS)
            have O7 := Lib.hid (own_ext HO.out hS)
            have tokA : True := trivial
            have tokS : True := trivial
            clear hS
            go_wp2_with (first
              | (have _t := tokS; (with_reducible refine at_bslice rfl ?_); refine bslice_one rfl 83 86 _ rfl appFile (by decide) #[.string (strOf y.1), .string (strOf y.2)] rfl rfl ?_; clear tokS _t)
              | (have _t := tokA; at_builtin; refine app_new appFile rfl _ _ rfl wo.heap.size _ q.length _ rfl O7.out #[.string (strOf y.1), .string (strOf y.2)] 86 1 rfl rfl (by intro u hu; simp at hu; rcases hu with rfl | rfl <;> rfl) (by decide) (by omega) EV.out.size ?_; intro g9 cap9 w9 hown9 hgr9 hb9 hbg9; have O9 := Lib.hid hown9; have B9 := Lib.hid (Below.trans EV.out hb9); clear tokA _t hown9 hgr9 hb9 hbg9))
            go_roundw
            case rel =>
              refine ⟨j + 1, by omega, by go_num, ?_, B9.out⟩
              rw [SN.out, List.length_append, filesC_append]
              exact O9.out
            case measure => simp [intOf]; omega
        · obtain rfl : j = F.length := by omega
          rw [List.take_length] at HO
          have ql : (F.filter fun f => !decide (f.1 = x.path)).length ≤ F.length := List.length_filter_le _ _
          obtain ⟨q, hq⟩ : ∃ q, q = F.filter fun f => !decide (f.1 = x.path) := ⟨_, rfl⟩
          rw [← hq] at HO ql
          have SQ := Lib.hid (show Sp.noteS F x = q ++ if x.kind = 2 then [] else [(x.path, x.now)] by rw [hq]; rfl)
          have HC0 := Lib.hid (HI.out.cell D0.out)
          have HC1 := Lib.hid (HI.out.cell D1.out)
          have HC3 := Lib.hid (HI.out.cell D3.out)
          have c1 := HC1.out
          have EW := Lib.hid (HX.out.trans HI.out)
          clear hq hb
          by_cases h2 : x.kind = 2
          · have SN := Lib.hid (show (L.take (k + 1)).foldl Sp.noteS [] = q by rw [ST.out, SQ.out, if_pos h2, List.append_nil])
            rw [h2] at c1
            clear h2
            go_wp2
            go_roundw
            case rel => exact ⟨k + 1, by omega, by go_num, by rw [SN.out]; exact own_lowT HO.out HX.out.size, EW.out⟩
            case measure => simp [intOf]; omega
          · have q2 : (x.kind == 2) = false := by rw [beq_eq_false_iff_ne]; exact h2
            have SN := Lib.hid (show (L.take (k + 1)).foldl Sp.noteS [] = q ++ [(x.path, x.now)] by rw [ST.out, SQ.out, if_neg h2])
            clear h2
            go_wp2_with fail
            refine wp_region_seqT (fun W => Ext wr W) 11 13 (by kernel_rfl) (by kernel_rfl) (Ext.refl wr).drew ?_
            simp only [List.take_succ_cons, List.take_zero, List.drop_succ_cons, List.drop_zero]
            repeat (first
              | (refine floatT_step (fun K hK => ?_); (fail); go_simp; refine hK _ ?_; clear hK K)
              | (refine floatT_step (fun K hK => ?_)
                 apply Exists.intro
                 refine ⟨Or.inl ⟨rfl, fun W hS => ?_⟩, ?_⟩
                 · have hz : Ext wr W := hS; have f0 := hz.cell HC0.out; have f3 := hz.cell HC3.out
                   go_simp
                   first | done | exact rfl
                 go_simp
                 refine hK _ ?_
                 clear hK K))
            refine floatT_nil ?_
            refine seqT_succ (n := 1) (fun Q' hQ' => ?_)
            go_wp2
            refine hQ' _ _ (Ext.refl wr).drew ?_
            clear hQ'
            refine seqT_succ (n := 0) (fun Q' hQ' => ?_)
            go_wp2_with ((with_reducible refine at_bslice rfl ?_); refine bslice_one rfl 83 86 _ rfl appFile (by decide) #[.string (strOf x.path), .string (strOf x.now)] rfl rfl ?_)
            refine hQ' _ _ (Below.alloc (Ext.refl wr).drew (Ext.refl wr).drew.size _) ?_
            clear hQ'
            refine seqT_zero ?_
            have tokA : True := trivial
            have ql2 : (q.length + 1) * 32 ≤ 140737488355328 := by omega
            go_wp2_with (have _t := tokA; at_builtin; refine app_new appFile rfl _ _ rfl wo.heap.size _ q.length _ rfl (own_ext HO.out (Ext.refl wr).drew) #[.string (strOf x.path), .string (strOf x.now)] 86 1 rfl rfl (by intro u hu; simp at hu; rcases hu with rfl | rfl <;> rfl) (by decide) ql2 (Nat.le_trans HI.out.size (Ext.refl wr).drew.size) ?_; intro g6 cap6 w10 hown10 hgr10 hb10 hbg10; have O10 := Lib.hid hown10; have B10 := Lib.hid (show Ext wo w10 from Below.trans HI.out.drew hb10); clear tokA _t hown10 hgr10 hb10 hbg10)
            refine ⟨rfl, ?_⟩
            go_wp2
            go_roundw
            case rel =>
              refine ⟨k + 1, by omega, by go_num, ?_, HX.out.trans B10.out⟩
              rw [SN.out, List.length_append, filesC_append]
              exact own_lowT O10.out HX.out.size
            case measure => simp [intOf]; omega
    · obtain rfl : k = L.length := by omega
      rw [List.take_length] at C10
      have fl := NL.out L.length
      rw [List.take_length] at fl
      obtain ⟨F, hF⟩ : ∃ F, F = L.foldl Sp.noteS [] := ⟨_, rfl⟩
      rw [← hF] at C10 fl FO FS
      have ES := Lib.hid (E6.out.trans HX.out)
      rw [List.take_length, ← hF]
      clear NT NL C6 HL hF hb
      go_wp2_with fail
      refine (EB.out _ ES.out).mono ?_
      rintro e w7 ⟨A7, c7, rfl, hE7, hb7⟩
      have Y7 := Lib.hid hE7
      have E7 := Lib.hid (ES.out.trans hb7)
      have C17 := Lib.hid (C10.out.ext hb7)
      have S7 := Lib.hid (SA.out A7 c7 w7 hE7)
      clear hE7 hb7 EB SA C10
      go_wp2_with fail
      refine S7.out.mono ?_
      rintro e w8 ⟨A8, c8, rfl, _, hb8⟩
      have Y8 := Lib.hid (Y7.out.ext hb8)
      have E8 := Lib.hid (E7.out.trans hb8)
      have C18 := Lib.hid (C17.out.ext hb8)
      obtain ⟨sn, hsn⟩ : ∃ sn, sn = (Sp.shownM mb).length := ⟨_, rfl⟩
      rw [← hsn] at FO sl ⊢
      obtain ⟨bl, hbl⟩ : ∃ bl, bl = decide (F.length = sn) := ⟨_, rfl⟩
      have BL := Lib.hid hbl
      have BI : ((F.length : Int) == (sn : Int)) = bl := by
        rw [hbl]
        by_cases h : F.length = sn
        · rw [decide_eq_true h, h]; exact beq_self_eq_true _
        · rw [decide_eq_false h, beq_eq_false_iff_ne]; omega
      clear hb8 S7 Y7 C17 hsn hbl
      obtain ⟨x0, hx0⟩ : ∃ x0, x0 = Sp.clashS (Sp.textsT ((none : Option Sp.T).getD .nil) ++ Sp.textsT (oa.getD .nil)) := ⟨_, rfl⟩
      rw [← hx0] at FO C0
      obtain ⟨x1, hx1⟩ : ∃ x1, x1 = Sp.clashS (Sp.textsT (oa.getD .nil) ++ Sp.textsT (ob.getD .nil)) := ⟨_, rfl⟩
      rw [← hx1] at FO CL
      clear hx0 hx1
      go_wp2
      go_loopw [16, 17] (fun v16 v17 wr => ∃ i : Nat, i ≤ F.length ∧ v17 = .int .i64 i ∧ (∃ b, v16 = .bool b ∧ Hid (x0 = false → x1 = false → b = true)) ∧ Ext w8 wr) (fun _ v17 _ => F.length - (intOf v17).toNat)
      case atStart => exact ⟨0, Nat.zero_le _, rfl, ⟨bl, rfl, Lib.hid fun h0 h1 => by rw [BL.out]; exact decide_eq_true (FO.out h0 h1).1⟩, Ext.refl _⟩
      case round =>
        obtain ⟨i, hi, rfl, ⟨b, rfl, BH⟩, hb⟩ := hrel
        have HI := Lib.hid hb
        by_cases hil : i < F.length
        · obtain ⟨gf, of, rfl, hf⟩ := file_at (C18.out.ext hb) (by omega)
          obtain ⟨f0, f1⟩ := hf i hil
          have ym := FS.out _ (List.getElem_mem hil)
          have FY := Lib.hid fun h0 h1 => (FO.out h0 h1).2 _ (List.getElem_mem hil)
          obtain ⟨y, hy⟩ : ∃ y, y = F[i] := ⟨_, rfl⟩
          rw [← hy] at f0 f1 ym FY
          have F1 := Lib.hid f1
          have ib : (i : Int) < (F.length : Int) := by omega
          have R9 := Lib.hid (RD.out A7 c7 y.1 (by omega) _ (Y8.out.ext hb))
          obtain ⟨rs, hrs⟩ : ∃ rs, rs = Sp.readS mb y.1 := ⟨_, rfl⟩
          rw [← hrs] at R9 FY
          clear f1 hf hy hb hrs
          go_wp2_with fail
          refine R9.out.mono ?_
          rintro e w9 ⟨rfl, hb9⟩
          have E9 := Lib.hid (HI.out.trans hb9)
          have f1 := hb9.cell F1.out
          clear hb9 R9 f0 F1
          cases b with
          | false =>
            go_wp2
            go_roundw
            case rel => exact ⟨i + 1, by omega, by go_num, ⟨false, rfl, BH⟩, E9.out⟩
            case measure => simp [intOf]; omega
          | true =>
            by_cases h2 : rs.2 = 0
            · by_cases h3 : rs.1 = y.2
              · have q3 : (rs.1 == y.2) = true := beq_iff_eq.2 h3
                have q2 : (rs.2 == 0) = true := beq_iff_eq.2 h2
                clear h2 h3
                go_wp2
                go_roundw
                case rel => exact ⟨i + 1, by omega, by go_num, ⟨true, rfl, Lib.hid fun _ _ => rfl⟩, E9.out⟩
                case measure => simp [intOf]; omega
              · have q3 : (rs.1 == y.2) = false := by rw [beq_eq_false_iff_ne]; exact h3
                have q2 : (rs.2 == 0) = true := beq_iff_eq.2 h2
                have NO := Lib.hid (show x0 = false → x1 = false → false = true from fun h0 h1 => absurd (by rw [FY.out h0 h1]) h3)
                clear h2 h3
                go_wp2
                go_roundw
                case rel => exact ⟨i + 1, by omega, by go_num, ⟨false, rfl, NO⟩, E9.out⟩
                case measure => simp [intOf]; omega
            · have q2 : (rs.2 == 0) = false := by rw [beq_eq_false_iff_ne]; exact h2
              have NO := Lib.hid (show x0 = false → x1 = false → false = true from fun h0 h1 => absurd (by rw [FY.out h0 h1]) h2)
              clear h2
              go_wp2
              go_roundw
              case rel => exact ⟨i + 1, by omega, by go_num, ⟨false, rfl, NO⟩, E9.out⟩
              case measure => simp [intOf]; omega
        · obtain rfl : i = F.length := by omega
          have EZ := Lib.hid (E8.out.trans HI.out)
          have Y9 := Lib.hid (Y8.out.ext hb)
          clear hb
          cases b with
          | true =>
            go_wp2_with fail
            refine (AW.out _ (B2.out.trans EZ.out)).mono ?_
            rintro e w9 ⟨rfl, hb9⟩
            go_wp2
            go_ret
            exact ⟨rfl, (B2.out.trans EZ.out).trans hb9⟩
          | false =>
            go_wp2_with fail
            refine (EA.out _ EZ.out).mono ?_
            rintro e w9 ⟨Aa, ca, rfl, hEa, hb9⟩
            have Ya := Lib.hid hEa
            have E9 := Lib.hid (EZ.out.trans hb9)
            have Yb := Lib.hid (Y9.out.ext hb9)
            clear hEa hb9 Y9
            go_wp2_with fail
            refine (CL.out Aa A7 ca c7 w9 (B2.out.trans E9.out) Ya.out Yb.out).mono ?_
            rintro e wa ⟨b1, rfl, hc1, hba⟩
            have HC1 := Lib.hid hc1
            have Ea := Lib.hid (E9.out.trans hba)
            clear hc1 hba CL Ya Yb
            cases b1 with
            | true =>
              go_wp2_with fail
              refine (AW.out _ (B2.out.trans Ea.out)).mono ?_
              rintro e wb ⟨rfl, hbb⟩
              go_wp2
              go_ret
              exact ⟨rfl, (B2.out.trans Ea.out).trans hbb⟩
            | false =>
              go_wp2_with fail
              refine (EA.out _ Ea.out).mono ?_
              rintro e wb ⟨Ab, cb, rfl, hEb, hbb⟩
              have Yb := Lib.hid hEb
              have Eb := Lib.hid (Ea.out.trans hbb)
              clear hEb hbb
              go_wp2_with fail
              refine (C0.out none Ab 0 cb wb (B2.out.trans Eb.out) (ents_nil _) Yb.out).mono ?_
              rintro e wc ⟨b2, rfl, hc2, hbc⟩
              have Ec := Lib.hid (Eb.out.trans hbc)
              obtain rfl : b2 = true := by
                cases b2 with
                | true => rfl
                | false =>
                  have y1 : x1 = false := by
                    cases x1 with
                    | false => rfl
                    | true => exact absurd (HC1.out rfl) Bool.false_ne_true
                  have y0 : x0 = false := by
                    cases x0 with
                    | false => rfl
                    | true => exact absurd (hc2 rfl) Bool.false_ne_true
                  exact BH.out y0 y1
              clear hbc hc2 Yb
              go_wp2_with fail
              refine (AW.out _ (B2.out.trans Ec.out)).mono ?_
              rintro e wd ⟨rfl, hbd⟩
              go_wp2
              go_ret
              exact ⟨rfl, (B2.out.trans Ec.out).trans hbd⟩
end Go.Proofs.YtmlfnidckfeebaaGreatDoor
namespace Go.Proofs.YtmlfnidckfeebaaGreatDoor
open Go.RowKit Go.ChangeShapes Go.WideShapes Go.Deep
theorem addr_plus (g o j : Nat) : (⟨g, o, none⟩ : Addr).add j = ⟨g, o + j, none⟩ := by simp [Addr.add]
theorem cells_dots {w : World} {g o : Nat} {l : List Sp.Dot} (h : ∀ k (hk : k < l.length), w.cell? ⟨g, o + k * 2, none⟩ = some (.int .i64 (l[k]).1) ∧ w.cell? ⟨g, o + k * 2 + 1, none⟩ = some (.int .i64 (l[k]).2)) : Dots w (some ⟨g, o, none⟩) l := fun _ =>
  ⟨g, o, rfl, fun i u hi => by
    have hil : i < l.length * 2 := by
      rw [← dotsC_len]
      exact (List.getElem?_eq_some_iff.1 hi).1
    have hk : i / 2 < l.length := by omega
    have h1 := dotsC_get l (i / 2) hk
    have h2 := h (i / 2) hk
    rcases Nat.mod_two_eq_zero_or_one i with h0 | h0
    · have e : i / 2 * 2 = i := by omega
      rw [e] at h1 h2
      rw [h1.1] at hi
      rw [h2.1, hi]
    · have e : i / 2 * 2 + 1 = i := by omega
      have e2 : o + i / 2 * 2 + 1 = o + i := by omega
      rw [e] at h1
      rw [e2] at h2
      rw [h1.2] at hi
      rw [h2.2, hi]⟩
theorem cells_vers {w : World} {g o : Nat} {m : List (Option Addr × Nat × Sp.Ver)} (h : ∀ k (hk : k < m.length) j u, (verC m[k].1 m[k].2.1 m[k].2.2)[j]? = some u → w.cell? ⟨g, o + (k * 5 + j), none⟩ = some u) : Cells w (some ⟨g, o, none⟩) (versC m) := fun _ =>
  ⟨g, o, rfl, fun i u hi => by
    have hil : i < m.length * 5 := by
      rw [← versC_len]
      exact (List.getElem?_eq_some_iff.1 hi).1
    have hk : i / 5 < m.length := by omega
    have e : i / 5 * 5 + i % 5 = i := by omega
    have h1 := versC_get m (i / 5) (i % 5) hk (by omega)
    rw [e, hi] at h1
    have := h (i / 5) hk (i % 5) u h1.symm
    rwa [e] at this⟩
theorem cells_ents {w : World} {g o : Nat} {m : List (Option Addr × Nat × Sp.DE)} (h : ∀ k (hk : k < m.length), w.cell? ⟨g, o + k * 2, none⟩ = some (.string (strOf m[k].2.2.1)) ∧ w.cell? ⟨g, o + k * 2 + 1, none⟩ = some (.slice m[k].1 m[k].2.2.2.length m[k].2.1)) : Cells w (some ⟨g, o, none⟩) (entsC m) := fun _ =>
  ⟨g, o, rfl, fun i u hi => by
    have hil : i < m.length * 2 := by
      rw [← entsC_len]
      exact (List.getElem?_eq_some_iff.1 hi).1
    have hk : i / 2 < m.length := by omega
    have e : i / 2 * 2 + i % 2 = i := by omega
    have h1 := entsC_get m (i / 2) (i % 2) hk (by omega)
    rw [e, hi] at h1
    have h2 := h (i / 2) hk
    rcases Nat.mod_two_eq_zero_or_one i with h0 | h0
    · rw [h0] at h1 e
      rw [show i / 2 * 2 = i by omega] at h2
      rw [h2.1]
      simpa [entC] using h1.symm
    · rw [h0] at h1 e
      rw [show o + i / 2 * 2 + 1 = o + i by omega] at h2
      rw [h2.2]
      simpa [entC] using h1.symm⟩
section
variable {H : Type} {enc : TypeId × Value → H} {w : World} {base : Nat} {spare : Nat → Bool} {held : Bool}
theorem weights_mem {P : Program} {e : TypeId} : ∀ (l : List (DataW H)) (d : DataW H), d ∈ l → (DataW.weightsAll P e l).all (· ≤ reachBytes) = true → (d.weights P e).all (· ≤ reachBytes) = true
  | x :: r, d, h, ha => by
    unfold DataW.weightsAll at ha
    rw [List.all_append, Bool.and_eq_true] at ha
    rcases List.mem_cons.1 h with rfl | h
    · exact ha.1
    · exact weights_mem r d h ha.2
set_option maxRecDepth 100000 in
theorem open_dots {n : Nat} {cs : List Value} {x : DataW H × List MemPlace} (h : DataW.trod enc Tryz.prog w base spare held n 69 cs = some x) :
    ∃ (l : List Sp.Dot) (A : Option Addr) (cap : Nat), cs = [.slice A l.length cap] ∧ Dots w A l ∧ ((x.1.weights Tryz.prog 69).all (· ≤ reachBytes) = true → l.length ≤ 140737488351232) := by
  rcases open_slice_pairs Tryz.underlying69 Tryz.underlying68 (by kernel_rfl) rfl rfl (by kernel_rfl) (by kernel_rfl) h with ⟨hc, _⟩ | ⟨a, len, cap, m, n, V0, V1, D0, D1, P0, P1, hc, _, hl, hm, hmm, hx, hall⟩
  · exact ⟨[], none, 0, hc, Cells.nil _ _, fun _ => Nat.zero_le _⟩
  · have hlm : len ≤ m := by rw [hmm]; split <;> omega
    obtain ⟨g, o, spot⟩ := a
    refine ⟨(List.range len).map fun i => (intOf (V0 i), intOf (V1 i)), some ⟨g, o, spot⟩, cap, by simpa using hc, ?_, ?_⟩
    · rcases Nat.eq_zero_or_pos len with h0 | h0
      · subst h0; exact Cells.nil _ _
      · have hspot : spot = none := by simpa [Addr.add] using World.cell?_spot (hall 0 (by omega)).1
        subst hspot
        refine cells_dots fun k hk => ?_
        have hk' : k < len := by simpa using hk
        obtain ⟨h1, h2, h3, h4⟩ := hall k (by omega)
        obtain ⟨u, hu, _⟩ := DataW.trod_int Tryz.underlying3 h3
        obtain ⟨v, hv, _⟩ := DataW.trod_int Tryz.underlying3 h4
        simp only [List.cons.injEq, and_true] at hu hv
        rw [hu] at h1
        rw [hv] at h2
        rw [addr_plus] at h1 h2
        simp only [List.getElem_map, List.getElem_range, hu, hv, intOf]
        exact ⟨h1, h2⟩
    · intro ha
      rw [hx] at ha
      unfold DataW.weights at ha
      rw [Tryz.underlying69] at ha
      simp only [List.all_cons, Bool.and_eq_true, decide_eq_true_eq, List.length_map, List.length_range] at ha
      have hb : Tryz.prog.bytesOf 68 = 16 := by kernel_rfl
      have := ha.1
      rw [hb] at this
      simp only [reachBytes] at this
      simp only [List.length_map, List.length_range]
      omega
set_option maxRecDepth 100000 in
theorem open_ver {n : Nat} {cs : List Value} {x : DataW H × List MemPlace} (h : DataW.trod enc Tryz.prog w base spare held n 71 cs = some x) :
    ∃ y : Option Addr × Nat × Sp.Ver, cs = (verC y.1 y.2.1 y.2.2).toList ∧ Dots w y.1 y.2.2.past ∧ ((x.1.weights Tryz.prog 71).all (· ≤ reachBytes) = true → y.2.2.past.length ≤ 140737488351232) := by
  obtain ⟨xs, k, _, rfl, hl, hlen, hf⟩ := DataW.trod_struct Tryz.underlying71 h
  have c0 : Tryz.prog.cellsOf 71 = 5 := by kernel_rfl
  have c1 : Tryz.prog.cellsOf 68 = 2 := by kernel_rfl
  have c2 : Tryz.prog.cellsOf 69 = 1 := by kernel_rfl
  have c3 : Tryz.prog.cellsOf 4 = 1 := by kernel_rfl
  have c4 : Tryz.prog.cellsOf 9 = 1 := by kernel_rfl
  have c5 : Tryz.prog.cellsOf 3 = 1 := by kernel_rfl
  rw [c0] at hl
  match cs, hl, xs, hlen with
  | [a, b, c, d, e], _, [y0, y1, y2, y3], _ =>
    have g0 := hf 0 _ rfl
    have g1 := hf 1 _ rfl
    have g2 := hf 2 _ rfl
    have g3 := hf 3 _ rfl
    simp at g0 g1 g2 g3
    rw [c1] at g0
    rw [c2] at g1
    rw [c3] at g2
    rw [c4] at g3
    simp only [List.take_succ_cons, List.take_zero] at g0 g1 g2 g3
    obtain ⟨zs, k0, _, hz, hzl, hzlen, hzf⟩ := DataW.trod_struct Tryz.underlying68 g0
    match zs, hzlen with
    | [z0, z1], _ =>
      have i0 := hzf 0 _ rfl
      have i1 := hzf 1 _ rfl
      simp at i0 i1
      rw [c5] at i0 i1
      simp only [List.take_succ_cons, List.take_zero] at i0 i1
      obtain ⟨p, hp, _⟩ := DataW.trod_int Tryz.underlying3 i0
      obtain ⟨q, hq, _⟩ := DataW.trod_int Tryz.underlying3 i1
      obtain ⟨l, A, cap, hA, hd, hw⟩ := open_dots g1
      obtain ⟨bb, hbb, _⟩ := DataW.trod_bool Tryz.underlying4 g2
      obtain ⟨s, hs, _⟩ := DataW.trod_string Tryz.underlying9 g3
      simp only [List.cons.injEq, and_true] at hp hq hA hbb hs
      subst hp hq hA hbb hs
      refine ⟨(A, cap, ⟨(p, q), l, bb, s.data.toList⟩), ?_, hd, fun ha => hw ?_⟩
      · simp [strOf_self]
      · unfold DataW.weights at ha
        rw [Tryz.underlying71] at ha
        simp [DataW.weightsEach, List.all_append] at ha
        simpa using ha.2.1
set_option maxRecDepth 100000 in
theorem open_vers {n : Nat} {cs : List Value} {x : DataW H × List MemPlace} (h : DataW.trod enc Tryz.prog w base spare held n 41 cs = some x) :
    ∃ (l : List Sp.Ver) (A : Option Addr) (cap : Nat), cs = [.slice A l.length cap] ∧ ((x.1.weights Tryz.prog 41).all (· ≤ reachBytes) = true → Vers w A l) := by
  have ce : Tryz.prog.cellsOf 71 = 5 := by kernel_rfl
  rcases open_slice Tryz.underlying41 h with ⟨hc, _⟩ | ⟨a, len, cap, m, n, D, Pl, hc, _, hl, hm, hmm, hx, hall⟩
  · exact ⟨[], none, 0, hc, fun _ => Vers.nil _ _⟩
  · have hlm : len ≤ m := by rw [hmm]; split <;> omega
    obtain ⟨f, hf⟩ := choose_lt (n := len) (fun i hi => by
      obtain ⟨cs', h1, h2⟩ := hall i (by omega)
      obtain ⟨y, h3, h4, h5⟩ := open_ver h2
      exact ⟨y, (show w.cells? base (a.add (i * Tryz.prog.cellsOf 71)) (Tryz.prog.cellsOf 71) = some (verC y.1 y.2.1 y.2.2).toList ∧ Dots w y.1 y.2.2.past ∧ (((D i).weights Tryz.prog 71).all (· ≤ reachBytes) = true → y.2.2.past.length ≤ 140737488351232) from ⟨by rw [h1, h3], h4, h5⟩)⟩)
    obtain ⟨g, o, spot⟩ := a
    refine ⟨(List.range len).map fun i => (f i).2.2, some ⟨g, o, spot⟩, cap, by simpa using hc, fun ha => ?_⟩
    rcases Nat.eq_zero_or_pos len with h0 | h0
    · subst h0; exact Vers.nil _ _
    · have hcell : ∀ i, i < len → ∀ j u, (verC (f i).1 (f i).2.1 (f i).2.2)[j]? = some u → w.cell? ((⟨g, o, spot⟩ : Addr).add (i * 5 + j)) = some u := by
        intro i hi j u hj
        have h1 := (hf i hi).1
        rw [ce] at h1
        obtain ⟨_, h2, h3⟩ := World.cells?_some h1
        have hj5 : j < 5 := by
          have := (Array.getElem?_eq_some_iff.1 hj).1
          simpa using this
        have := h3 j hj5
        rw [add_add] at this
        rw [this, ← hj]
        simp
      have hspot : spot = none := by
        have := World.cell?_spot (hcell 0 h0 0 _ rfl)
        simpa [Addr.add] using this
      subst hspot
      refine ⟨(List.range len).map f, by simp, ?_, ?_⟩
      · refine cells_vers fun k hk j u hj => ?_
        have hk' : k < len := by simpa using hk
        simp only [List.getElem_map, List.getElem_range] at hj
        have := hcell k hk' j u hj
        rwa [addr_plus] at this
      · intro y hy
        obtain ⟨i, hi, rfl⟩ := List.mem_map.1 hy
        have hi' : i < len := by simpa using hi
        refine ⟨(hf i hi').2.1, (hf i hi').2.2 ?_⟩
        rw [hx] at ha
        unfold DataW.weights at ha
        rw [Tryz.underlying41] at ha
        simp only [List.all_cons, List.all_append, Bool.and_eq_true] at ha
        exact weights_mem _ _ (List.mem_map.2 ⟨i, List.mem_range.2 hi', rfl⟩) ha.2.1
set_option maxRecDepth 100000 in
theorem open_ents {n : Nat} {cs : List Value} {x : DataW H × List MemPlace} (h : DataW.trod enc Tryz.prog w base spare held n 22 cs = some x) :
    ∃ (l : List Sp.DE) (A : Option Addr) (cap : Nat), cs = [.slice A l.length cap] ∧ ((x.1.weights Tryz.prog 22).all (· ≤ reachBytes) = true → EntsAt w A l) := by
  rcases open_slice_pairs Tryz.underlying22 Tryz.underlying43 (by kernel_rfl) rfl rfl (by kernel_rfl) (by kernel_rfl) h with ⟨hc, _⟩ | ⟨a, len, cap, m, n, V0, V1, D0, D1, P0, P1, hc, _, hl, hm, hmm, hx, hall⟩
  · exact ⟨[], none, 0, hc, fun _ => ⟨[], rfl, Cells.nil _ _, fun _ h => by cases h⟩⟩
  · have hlm : len ≤ m := by rw [hmm]; split <;> omega
    obtain ⟨g, o, spot⟩ := a
    obtain ⟨f, hf⟩ := choose_lt (n := len) (p := fun i (y : Option Addr × Nat × Sp.DE) => w.cell? ((⟨g, o, spot⟩ : Addr).add (i * 2)) = some (.string (strOf y.2.2.1)) ∧ w.cell? ((⟨g, o, spot⟩ : Addr).add (i * 2 + 1)) = some (.slice y.1 y.2.2.2.length y.2.1) ∧ (((D1 i).weights Tryz.prog 41).all (· ≤ reachBytes) = true → Vers w y.1 y.2.2.2)) (fun i hi => by
      obtain ⟨h1, h2, h3, h4⟩ := hall i (by omega)
      obtain ⟨s, hs, _⟩ := DataW.trod_string Tryz.underlying9 h3
      obtain ⟨l, A, c, hA, hv⟩ := open_vers h4
      simp only [List.cons.injEq, and_true] at hs hA
      exact ⟨(A, c, (s.data.toList, l)), by rw [h1, hs, strOf_self], by rw [h2, hA], hv⟩)
    refine ⟨(List.range len).map fun i => (f i).2.2, some ⟨g, o, spot⟩, cap, by simpa using hc, fun ha => ?_⟩
    rcases Nat.eq_zero_or_pos len with h0 | h0
    · subst h0; exact ⟨[], rfl, Cells.nil _ _, fun _ h => by cases h⟩
    · have hspot : spot = none := by simpa [Addr.add] using World.cell?_spot (hall 0 (by omega)).1
      subst hspot
      refine ⟨(List.range len).map f, by simp, cells_ents fun k hk => ?_, ?_⟩
      · have hk' : k < len := by simpa using hk
        obtain ⟨h1, h2, _⟩ := hf k hk'
        rw [addr_plus] at h1 h2
        simp only [List.getElem_map, List.getElem_range]
        exact ⟨h1, h2⟩
      · intro y hy
        obtain ⟨i, hi, rfl⟩ := List.mem_map.1 hy
        have hi' : i < len := by simpa using hi
        refine (hf i hi').2.2 ?_
        rw [hx] at ha
        unfold DataW.weights at ha
        rw [Tryz.underlying22] at ha
        simp only [List.all_cons, List.all_append, Bool.and_eq_true] at ha
        have h1 := weights_mem _ _ (List.mem_map.2 ⟨i, List.mem_range.2 hi', rfl⟩) ha.2.1
        unfold DataW.weights at h1
        rw [Tryz.underlying43] at h1
        simp [DataW.weightsEach, List.all_append] at h1
        simpa using h1.2
end
theorem laid_var {P : Program} {w : World} : ∀ {l : List (String × DataW Unit)} {ps : List MemPlace}, DataW.LaidVars P w l ps → ∀ n d, (n, d) ∈ l →
    ∃ g t cs fuel p, P.globalNamed n = some g ∧ (P.globals[g]?).map (·.type) = some t ∧ w.var? P n = some cs ∧ DataW.trod (fun _ => ()) P w 0 (fun _ => true) false fuel t cs.toList = some (d, p)
  | (_, _) :: _, _, ⟨g, t, cs, fuel, p, q, h1, h2, h3, h4, h5, _⟩, n, d, h => by
    rcases List.mem_cons.1 h with h | h
    · cases h; exact ⟨g, t, cs, fuel, p, h1, h2, h3, h4⟩
    · exact laid_var h5 n d h
theorem keys_laid {P : Program} {w : World} {laid : List (String × DataW Unit)} {n : String} {g t e : Nat} (h : laidMetH P laid w) (hp : (laid.all fun x => x.2.handleName?.isNone) = true) (hg : P.globalNamed n = some g) (ht : (P.globals[g]?).map (·.type) = some t)
    (hu : P.underlying t = some (.array 64 e)) (he : P.underlying e = some (.int .u32)) (hc : P.cellsOf e = 1) (hct : P.cellsOf t = 64) (hm : (n, DataW.agg (Sp.keys.map fun k => .lit (.int .u32 (wd k)))) ∈ laid) : KeysAt w g := by
  rw [Go.MakeChecks.laidMetH_plain P laid w hp] at h
  obtain ⟨ps, hl, _⟩ := h
  obtain ⟨g', t', cs, fuel, p, h1, h2, h3, h4⟩ := laid_var hl _ _ hm
  obtain rfl : g' = g := Option.some.inj (h1.symm.trans hg)
  obtain rfl : t' = t := Option.some.inj (h2.symm.trans ht)
  obtain ⟨xs, k, _, hx, hlen, hxl, hf⟩ := DataW.trod_array hu h4
  rw [hct] at hlen
  simp only [Prod.mk.injEq, DataW.agg.injEq] at hx
  intro i hi
  have hkl : Sp.keys.length = 64 := by decide
  have h5 := hf i hi
  rw [hc, Nat.mul_one] at h5
  have hci : i < cs.toList.length := by omega
  rw [List.drop_eq_getElem_cons hci, List.take_succ_cons, List.take_zero, List.getElem?_eq_getElem (by omega)] at h5
  obtain ⟨m, h6, h7, _⟩ := DataW.trod_int he h5
  simp only [List.cons.injEq, and_true] at h6
  have h8 := congrArg (fun l => l[i]?) hx.1
  simp only [List.getElem?_map, List.getElem?_eq_getElem (show i < Sp.keys.length by omega), List.getElem?_eq_getElem (show i < xs.length by omega), h7, Option.map_some, Option.some.injEq, DataW.lit.injEq, Lit.int.injEq, true_and] at h8
  unfold World.var? at h3
  rw [h1] at h3
  simp only [Option.bind_some] at h3
  unfold World.cell?
  simp only
  split at h3
  · rename_i cs' t2 x2 hh
    obtain rfl : cs' = cs := Option.some.inj h3
    rw [hh]
    simp only [List.getD_eq_getElem?_getD, List.getElem?_eq_getElem (show i < Sp.keys.length by omega), Option.getD_some]
    have : cs'[i]? = some (.int .u32 m) := by
      rw [← h6]; simp
    rw [this, ← h8]
    rfl
  · cases h3
end Go.Proofs.YtmlfnidckfeebaaGreatDoor
