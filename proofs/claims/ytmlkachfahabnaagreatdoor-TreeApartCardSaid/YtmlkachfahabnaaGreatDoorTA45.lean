/- Walks: what is seen of entries: the document's. What is found in a tree is what the document's list has there: plain. Walks: the root's digest: the document's. What is seen of a tree is a tree; a tree's entries with whole paths: plain. -/
import Derived.Test.YtmlkachfahabnaaGreatDoorTA39
import Derived.Test.YtmlkachfahabnaaGreatDoorTA44
import Derived.Test.YtmlkachfahabnaaGreatDoorTA10
import Derived.Test.YtmlkachfahabnaaGreatDoorTA37
import Derived.Test.YtmlkachfahabnaaGreatDoorTA36
namespace Go.Proofs.YtmlkachfahabnaaGreatDoor
open Go.RowKit Go.Shelf
attribute [local go_sem] yUpon strOf_toList
set_option maxRecDepth 100000 in
set_option maxHeartbeats 4000000 in
theorem rlive2_calls (l : List Sp.Ver) (A : Option Addr) (cap : Nat) (w0 w : World) (e0 : Ext w0 w) (h : Vers w0 A l) (hl : l.length ≤ 1000000) : Calls Tryz.prog 24 #[.slice A l.length cap] w fun e w' => ∃ (v : Value) (m : List (Option Addr × Nat × Sp.Ver)), e = .returned v ∧ m.map (·.2.2) = Sp.live l ∧ w'.ownsRow w.heap.size 48 5 v (Sp.live l).length (versC m) ∧ (∀ x ∈ m, Past w0 x.1 x.2.2) ∧ Ext w w' := by
  go_enter Tryz.func24, Tryz.ntmps24
  go_wp2
  go_loopw [3, 4] (fun v3 v8 wr => ∃ k : Nat, k ≤ l.length ∧ v8 = .int .i64 k ∧ (∃ m : List (Option Addr × Nat × Sp.Ver), m.map (·.2.2) = Sp.live (l.take k) ∧ wr.ownsRow w.heap.size 48 5 v3 m.length (versC m) ∧ ∀ x ∈ m, Past w0 x.1 x.2.2) ∧ Ext w wr) (fun _ v8 _ => l.length - (intOf v8).toNat)
  case atStart => exact ⟨0, Nat.zero_le _, rfl, ⟨[], rfl, ⟨rfl, .inl ⟨rfl, rfl⟩⟩, fun _ h => by cases h⟩, Ext.refl _⟩
  case round =>
    obtain ⟨k, hk, rfl, ⟨m, hm, hown, hp⟩, hb⟩ := hrel
    by_cases hlt : k < l.length
    · obtain ⟨g, o, rfl, hc0⟩ := h.at (by omega)
      obtain ⟨A', c', hvc, hpast⟩ := hc0 k hlt
      obtain ⟨c0, c1, c2, c3, c4⟩ := hvc.ext (e0.trans hb)
      have HC := Lib.hid hpast
      have HP := Lib.hid hp
      have ml : m.length ≤ k := by
        have := congrArg List.length hm
        rw [List.length_map] at this
        rw [this]
        unfold Sp.live
        exact Nat.le_trans (List.length_filter_le _ _) (List.length_take_le _ _)
      have st : Sp.live (l.take (k + 1)) = Sp.live (l.take k) ++ if l[k].dead then [] else [l[k]] := by
        unfold Sp.live
        rw [List.take_succ_eq_append_getElem hlt, List.filter_append]
        cases hh : l[k].dead <;> simp [hh]
      have HM := Lib.hid hm
      have HO := Lib.hid hown
      clear hm hown hp hvc hpast hc0
      by_cases hd : l[k].dead = true
      · rw [hd] at c3
        rw [if_pos hd, List.append_nil] at st
        have ST := Lib.hid st
        clear st
        go_wp2_with fail
        go_roundw
        case rel => exact ⟨k + 1, by omega, by go_num, ⟨m, by rw [ST.out]; exact HM.out, HO.out, HP.out⟩, hb⟩
        case measure => simp [intOf]; omega
      · have hd' : l[k].dead = false := by simpa using hd
        rw [hd'] at c3
        rw [if_neg hd] at st
        have ST := Lib.hid st
        have HD := Lib.hid hd'
        clear st hd hd'
        go_wp2_with (at_builtin; refine app_new appVer rfl _ _ rfl w.heap.size _ m.length _ rfl (HO.out) #[.int .i64 l[k].dot.1, .int .i64 l[k].dot.2, .slice A' l[k].past.length c', .bool false, .string (strOf l[k].data)] 48 1 rfl rfl (by intro u hu; simp at hu; rcases hu with rfl | rfl | rfl | rfl | rfl <;> rfl) (by decide) (by omega) (hb.size) ?_; intro g6 cap6 w6 hown6 hgr6 hb6 hbg6; have O6 := Lib.hid hown6; have B6 := Lib.hid hb6; clear hown6 hgr6 hb6)
        go_roundw
        case rel =>
          refine ⟨k + 1, by omega, by go_num, ⟨m ++ [(A', c', l[k])], ?_, ?_, ?_⟩, B6.out.from hb⟩
          · rw [List.map_append, HM.out, ST.out]; rfl
          · rw [versC_append, List.length_append]
            have := O6.out
            simpa [versC, HD.out] using this
          · intro x hx
            rcases List.mem_append.1 hx with h1 | h1
            · exact HP.out x h1
            · obtain rfl := List.mem_singleton.1 h1
              exact HC.out
        case measure => simp [intOf]; omega
    · obtain rfl : k = l.length := by omega
      rw [List.take_length] at hm
      have HM := Lib.hid hm
      clear hm
      go_wp2
      go_ret
      refine ⟨_, m, rfl, HM.out, ?_, hp, hb⟩
      rw [← HM.out, List.length_map]
      exact hown
namespace Sp
def shownM (m : List DE) : List DE := m.filterMap fun e => if live e.2 = [] then none else some (e.1, live e.2)
theorem toP_shown (m : List DE) : toP (shownM m) = shownE (toP m) := by
  induction m with
  | nil => rfl
  | cons e r ih =>
    unfold shownM shownE toP at *
    rw [List.map_cons, List.filterMap_cons, List.filterMap_cons]
    by_cases h : live e.2 = []
    · simp only [h, if_true]; exact ih
    · simp only [h, if_false, List.map_cons]; rw [ih]
theorem shownM_step (m : List DE) (k : Nat) (h : k < m.length) : shownM (m.take (k + 1)) = shownM (m.take k) ++ if live (m[k]).2 = [] then [] else [((m[k]).1, live (m[k]).2)] := by
  unfold shownM
  rw [List.take_succ_eq_append_getElem h, List.filterMap_append]
  by_cases hl : live (m[k]).2 = [] <;> simp [hl]
theorem shownM_len (m : List DE) : (shownM m).length ≤ m.length := List.length_filterMap_le _ _
end Sp
/-- An entry whose versions were gathered: their vectors were there before. -/
def LiveAt (w wr : World) (x : Option Addr × Nat × Sp.DE) : Prop := ∃ mv : List (Option Addr × Nat × Sp.Ver), mv.map (·.2.2) = x.2.2.2 ∧ wr.ownsRow 0 48 5 (.slice x.1 x.2.2.2.length x.2.1) x.2.2.2.length (versC mv) ∧ ∀ y ∈ mv, Past w y.1 y.2.2
theorem LiveAt.keep {T : TypeId → Prop} (hT : ¬ T 48) {B : Nat} {w wr w' : World} {x : Option Addr × Nat × Sp.DE} (h : LiveAt w wr x) (k : KB T B wr w') : LiveAt w w' x := by
  obtain ⟨mv, h1, h2, h3⟩ := h
  exact ⟨mv, h1, own_keep hT h2 k, h3⟩
theorem LiveAt.vers {w wr : World} {x : Option Addr × Nat × Sp.DE} (h : LiveAt w wr x) (e : Ext w wr) : Vers wr x.1 x.2.2.2 := by
  obtain ⟨mv, h1, h2, h3⟩ := h
  obtain ⟨A, c, e2, hc⟩ := own_read h2
  cases e2
  exact ⟨mv, h1, hc, fun y hy => (h3 y hy).ext e⟩
set_option maxRecDepth 100000 in
set_option maxHeartbeats 4000000 in
theorem rshown_calls (m : List Sp.DE) (A : Option Addr) (cap : Nat) (w : World) (h : EntsAt w A m) (hl : m.length ≤ 1000000) (hs : ∀ e ∈ m, e.2.length ≤ 1000000) :
    Calls Tryz.prog 9 #[.slice A m.length cap] w fun e w' => ∃ B c, e = .returned (.slice B (Sp.shownM m).length c) ∧ EntsAt w' B (Sp.shownM m) ∧ Ext w w' := by
  have HH := Lib.hid h
  have HS := Lib.hid hs
  clear h hs
  go_enter Tryz.func9, Tryz.ntmps9
  go_wp2
  go_loopw [3, 4] (fun v3 v4 wr => ∃ k : Nat, k ≤ m.length ∧ v4 = .int .i64 k ∧ (∃ mo : List (Option Addr × Nat × Sp.DE), mo.map (·.2.2) = Sp.shownM (m.take k) ∧ wr.ownsRow w.heap.size 41 2 v3 mo.length (entsC mo) ∧ ∀ x ∈ mo, LiveAt w wr x) ∧ Ext w wr) (fun _ v4 _ => m.length - (intOf v4).toNat)
  case atStart => exact ⟨0, Nat.zero_le _, rfl, ⟨[], rfl, World.ownsRow_nil _ _ _ _, fun _ h => by cases h⟩, Ext.refl _⟩
  case round =>
    obtain ⟨k, hk, rfl, ⟨mo, hm, hown, hp⟩, hb⟩ := hrel
    by_cases hlt : k < m.length
    · obtain ⟨eb, eo, rfl, he⟩ := HH.out.at (by omega)
      obtain ⟨Av, cv, c0, c1, hv⟩ := he k hlt
      have st := Sp.shownM_step m k hlt
      have hls := HS.out _ (List.getElem_mem hlt)
      obtain ⟨x, hx⟩ : ∃ x, x = m[k] := ⟨_, rfl⟩
      rw [← hx] at c0 c1 hv st hls
      have f0 := hb.cell c0
      have f1 := hb.cell c1
      have ml : mo.length ≤ k := by
        have := congrArg List.length hm
        rw [List.length_map] at this
        rw [this]
        exact Nat.le_trans (Sp.shownM_len _) (List.length_take_le _ _)
      have LV := Lib.hid (rlive2_calls x.2 Av cv w wr hb hv hls)
      have HM := Lib.hid hm
      have HO := Lib.hid hown
      have HP := Lib.hid hp
      have HB := Lib.hid hb
      have ST := Lib.hid st
      have C0 := Lib.hid c0
      have b1 : (k : Int) < (m.length : Int) := by omega
      clear hm hown hp hb st c0 c1 he hv hls hx
      go_wp2_with fail
      refine LV.out.mono ?_
      rintro e w2 ⟨v2, mv, rfl, hmv, hO2, hpv, hb2⟩
      obtain ⟨A2, c2, rfl, _⟩ := own_read hO2
      have O2 := Lib.hid hO2
      have MV := Lib.hid hmv
      have PV := Lib.hid hpv
      have B2 := Lib.hid hb2
      have E2 := Lib.hid (HB.out.trans hb2)
      clear hO2 hmv hpv hb2 f0 f1
      by_cases hl0 : Sp.live x.2 = []
      · have e1 : decide (0 < (Sp.live x.2).length) = false := by rw [hl0]; rfl
        have ST2 := Lib.hid (show Sp.shownM (m.take (k + 1)) = Sp.shownM (m.take k) by rw [ST.out, if_pos hl0, List.append_nil])
        clear hl0
        go_wp2
        go_roundw
        case rel => exact ⟨k + 1, by omega, by go_num, ⟨mo, by rw [ST2.out]; exact HM.out, own_ext HO.out B2.out, fun y hy => (HP.out y hy).keep (T := noT) (fun h => h) (KB.ext HB.out.size B2.out)⟩, E2.out⟩
        case measure => simp [intOf]; omega
      · have e1 : decide (0 < (Sp.live x.2).length) = true := decide_eq_true (List.length_pos_iff.2 hl0)
        have ST2 := Lib.hid (show Sp.shownM (m.take (k + 1)) = Sp.shownM (m.take k) ++ [(x.1, Sp.live x.2)] by rw [ST.out, if_neg hl0])
        have f0 := E2.out.cell C0.out
        clear hl0
        go_wp2_with (at_builtin; refine app_new appEnt rfl _ _ rfl w.heap.size _ mo.length _ rfl (own_ext HO.out B2.out) #[.string (strOf x.1), .slice A2 (Sp.live x.2).length c2] 41 1 rfl rfl (by intro u hu; simp at hu; rcases hu with rfl | rfl <;> rfl) (by decide) (by omega) (E2.out.size) ?_; intro g6 cap6 w6 hown6 hgr6 hb6 hbg6; have O6 := Lib.hid hown6; have G6 := Lib.hid hgr6; have B6 := Lib.hid hb6; clear hown6 hgr6 hb6 hbg6)
        have KG := Lib.hid (show KB (fun t => t = 41) w.heap.size w2 w6 from KB.grown (own_ext HO.out B2.out) rfl G6.out B6.out)
        go_roundw
        case rel =>
          refine ⟨k + 1, by omega, by go_num, ⟨mo ++ [(A2, c2, (x.1, Sp.live x.2))], ?_, ?_, fun y hy => ?_⟩, Below.trans E2.out B6.out⟩
          · rw [List.map_append, HM.out, ST2.out]; rfl
          · rw [entsC_snoc, List.length_append]
            exact O6.out
          · rcases List.mem_append.1 hy with h1 | h1
            · exact ((HP.out y h1).keep (T := noT) (fun h => h) (KB.ext HB.out.size B2.out)).keep (by intro h; cases h) KG.out
            · obtain rfl := List.mem_singleton.1 h1
              exact LiveAt.keep (T := fun t => t = 41) (by intro h; cases h) ⟨mv, MV.out, own_lowT O2.out (Nat.zero_le _), PV.out⟩ KG.out
        case measure => simp [intOf]; omega
    · obtain rfl : k = m.length := by omega
      rw [List.take_length] at hm
      have hlen : mo.length = (Sp.shownM m).length := by rw [← hm, List.length_map]
      rw [hlen] at hown
      obtain ⟨B, c, rfl, hc⟩ := own_read hown
      have HE := Lib.hid (show EntsAt wr B (Sp.shownM m) from ⟨mo, hm, hc, fun y hy => (hp y hy).vers hb⟩)
      have HB := Lib.hid hb
      clear hm hown hp hb hc hlen
      go_wp2
      go_ret
      exact ⟨B, c, rfl, HE.out, HB.out⟩
end Go.Proofs.YtmlkachfahabnaaGreatDoor
namespace Go.Proofs.YtmlkachfahabnaaGreatDoor
open Go.RowKit
section
variable {P : Program} {ops : Array Oper} {T : World → Prop}
end
namespace Sp
end Sp
end Go.Proofs.YtmlkachfahabnaaGreatDoor
namespace Go.Proofs.YtmlkachfahabnaaGreatDoor
open Go.RowKit Go.Shelf
attribute [local go_sem] yUpon strOf_toList
end Go.Proofs.YtmlkachfahabnaaGreatDoor
namespace Go.Proofs.YtmlkachfahabnaaGreatDoor
open Go.RowKit
namespace Sp
theorem lgo_filter (p : Ver → Bool) : ∀ (l : List Ver) (last last' : Option Int), (∀ x', last' = some x' → ∃ x, last = some x ∧ x' ≤ x) → lgo last l = 0 → lgo last' (l.filter p) = 0
  | [], _, _, _, _ => rfl
  | v :: r, last, last', hw, h => by
    rw [lgo] at h
    by_cases hd : vercheck v = 0
    · rw [if_neg (by simpa using hd)] at h
      by_cases hl : ∃ x, last = some x ∧ v.dot.1 ≤ x
      · rw [if_pos hl] at h; cases h
      · rw [if_neg hl] at h
        by_cases hp : p v = true
        · rw [List.filter_cons_of_pos hp, lgo, if_neg (by simpa using hd), if_neg]
          · exact lgo_filter p r _ _ (fun x' hx => ⟨x', hx, Int.le_refl _⟩) h
          · rintro ⟨x', hx', hle⟩
            obtain ⟨x, hx, hxx⟩ := hw x' hx'
            exact hl ⟨x, hx, by omega⟩
        · rw [List.filter_cons_of_neg hp]
          refine lgo_filter p r _ _ (fun x' hx => ?_) h
          obtain ⟨x, hx, hxx⟩ := hw x' hx
          refine ⟨v.dot.1, rfl, ?_⟩
          rcases Int.lt_or_le x v.dot.1 with h1 | h1
          · omega
          · exact absurd ⟨x, hx, h1⟩ hl
    · rw [if_pos hd] at h; exact absurd h hd
theorem live_leaf {l : List Ver} (h : leaf l = 0) : leaf (live l) = 0 := by
  obtain ⟨h1, h2, h3⟩ := leaf_ok h
  have a1 : ¬ 64 < (live l).length := by
    have := List.length_filter_le (fun v : Ver => !v.dead) l
    unfold live
    omega
  have a2 : lgo none (live l) = 0 := lgo_filter _ l none none (fun x' hx => by cases hx) h2
  have a3 : ((live l).any fun v => covered (live l) v) = false := by
    rw [Bool.eq_false_iff] at h3 ⊢
    intro h4
    apply h3
    rw [List.any_eq_true] at h4 ⊢
    obtain ⟨v, hv, hc⟩ := h4
    refine ⟨v, (List.mem_filter.1 hv).1, ?_⟩
    unfold covered at hc ⊢
    rw [List.any_eq_true] at hc ⊢
    obtain ⟨u, hu, hcu⟩ := hc
    exact ⟨u, (List.mem_filter.1 hu).1, hcu⟩
  unfold leaf
  rw [if_neg a1, if_neg (by simpa using a2), if_neg (by simpa using a3)]
theorem showL_names : ∀ k, List.Sublist ((showL k).map (·.1)) (k.map (·.1))
  | [] => List.Sublist.slnil
  | (n, t) :: r => by
    rw [showL]
    by_cases h : entries (showT t) = []
    · rw [if_pos h]; exact (showL_names r).cons _
    · rw [if_neg h]; exact (showL_names r).cons_cons _
mutual
theorem show_ok : ∀ t, Ok t → Ok (showT t)
  | .mk l k, h => by
    rw [showT]
    refine ⟨fun hne => ?_, List.Pairwise.sublist (showL_names k) h.2.1, show_okL k h.2.2⟩
    by_cases h0 : l = []
    · subst h0; exact absurd rfl hne
    · exact live_leaf (h.1 h0)
theorem show_okL : ∀ k, OkL k → OkL (showL k)
  | [], _ => trivial
  | (n, t) :: r, h => by
    rw [showL]
    by_cases h0 : entries (showT t) = []
    · rw [if_pos h0]; exact show_okL r h.2.2.2
    · rw [if_neg h0]; exact ⟨h.1, h0, show_ok t h.2.2.1, show_okL r h.2.2.2⟩
end
theorem told_eq {o : Option T} {m : List DE} (he : toP m = entriesO o) : told o = m := by
  unfold told
  rw [← he]
  unfold toP
  rw [List.map_map]
  conv => rhs; rw [← List.map_id m]
  refine List.map_congr_left fun e _ => ?_
  show (joinP (split e.1), e.2) = e
  rw [join_split]
theorem told_short {o : Option T} {m : List DE} (he : toP m = entriesO o) (hm : GoodM m) : ∀ x ∈ entriesO o, x.1.length ≤ 60 := fun x hx => by
  rw [← he] at hx
  obtain ⟨e, h1, rfl⟩ := List.mem_map.1 hx
  exact Nat.le_trans (check_parts (hm.1 e h1)).2.2.1 (by decide)
theorem told_leaf {o : Option T} {m : List DE} (he : toP m = entriesO o) (ho : GoodO o) : ∀ e ∈ m, e.2.length ≤ 1000000 := fun e h => by
  have : (split e.1, e.2) ∈ entriesO o := by rw [← he]; exact List.mem_map_of_mem h
  exact (told_fit ho _ this).1
theorem shown_both {o : Option T} {m : List DE} (he : toP m = entriesO o) (ho : GoodO o) (hm : GoodM m) :
    GoodM (shownM m) ∧ Ok (showT (o.getD .nil)) ∧ sizeT (showT (o.getD .nil)) ≤ 128 ∧ toP (shownM m) = entries (showT (o.getD .nil)) := by
  have e1 : toP (shownM m) = entries (showT (o.getD .nil)) := by rw [toP_shown, he, show_entries, entries_getD]
  refine ⟨⟨fun e he2 => ?_, Nat.le_trans (shownM_len m) hm.2⟩, show_ok _ (getD_ok ho.1), ?_, e1⟩
  · unfold shownM at he2
    obtain ⟨y, hy, h2⟩ := List.mem_filterMap.1 he2
    split at h2
    · cases h2
    · cases h2; exact hm.1 y hy
  · rw [sizeT_len, ← e1, toP_len]
    exact Nat.le_trans (shownM_len m) hm.2
end Sp
end Go.Proofs.YtmlkachfahabnaaGreatDoor
