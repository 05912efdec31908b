/- Trees: what is seen of one. Walks: walk.Under, walk.List. Walks: what is seen of entries: the document's. What is seen of a tree is a tree; a tree's entries with whole paths: plain. Walks, plain: Count is the document's; what is listed behind the last path; what is below a directory, in parts. What users see change, plain. Walks: WatchStill. -/
import Derived.Test.YtmlfnidckfeebaaGreatDoorQQ024
namespace Go.Proofs.YtmlfnidckfeebaaGreatDoor
open Go.RowKit
namespace Sp
def shownE (E : List PE) : List PE := E.filterMap fun e => if live e.2 = [] then none else some (e.1, live e.2)
theorem shownE_append (E F : List PE) : shownE (E ++ F) = shownE E ++ shownE F := List.filterMap_append
theorem shownE_map (n : Bs) : ∀ (E : List PE), shownE (E.map (fun e => (n :: e.1, e.2))) = (shownE E).map (fun e => (n :: e.1, e.2))
  | [] => rfl
  | (q, l) :: r => by
    have ih := shownE_map n r
    unfold shownE at *
    rw [List.map_cons]
    by_cases h : live l = []
    · rw [List.filterMap_cons_none (by simp [h]), List.filterMap_cons_none (by simp [h]), ih]
    · rw [List.filterMap_cons_some (b := (n :: q, live l)) (by simp [h]), List.filterMap_cons_some (b := (q, live l)) (by simp [h]), ih, List.map_cons]
mutual
theorem show_entries : ∀ t, entries (showT t) = shownE (entries t)
  | .mk leaf kids => by
    rw [showT, entries, entries, shownE_append, show_entriesL kids]
    congr 1
    by_cases h : leaf = []
    · subst h; rfl
    · rw [if_neg h]
      by_cases h2 : live leaf = []
      · rw [if_pos h2]; unfold shownE; rw [List.filterMap_cons_none (by simp [h2])]; rfl
      · rw [if_neg h2]; unfold shownE; rw [List.filterMap_cons_some (b := ([], live leaf)) (by simp [h2])]; rfl
theorem show_entriesL : ∀ k, entriesL (showL k) = shownE (entriesL k)
  | [] => rfl
  | (n, t) :: r => by
    have h1 := show_entries t
    have h2 := show_entriesL r
    rw [showL, entriesL, shownE_append, shownE_map, ← h1, ← h2]
    by_cases h : entries (showT t) = []
    · rw [if_pos h, h]; rfl
    · rw [if_neg h, entriesL]
end
end Sp
end Go.Proofs.YtmlfnidckfeebaaGreatDoor
namespace Go.Proofs.YtmlfnidckfeebaaGreatDoor
open Go.RowKit Go.Shelf
attribute [local go_sem] yUpon strOf_toList
namespace Sp
def behind (d a p : Bs) : Bool := under p d && decide (0 < compare p a)
end Sp
end Go.Proofs.YtmlfnidckfeebaaGreatDoor
namespace Go.Proofs.YtmlfnidckfeebaaGreatDoor
open Go.RowKit Go.Shelf
attribute [local go_sem] yUpon strOf_toList
set_option maxRecDepth 100000 in
set_option maxHeartbeats 4000000 in
theorem rlive2_calls (l : List Sp.Ver) (A : Option Addr) (cap : Nat) (w0 w : World) (e0 : Ext w0 w) (h : Vers w0 A l) (hl : l.length ≤ 1000000) : Calls Tryz.prog 114 #[.slice A l.length cap] w fun e w' => ∃ (v : Value) (m : List (Option Addr × Nat × Sp.Ver)), e = .returned v ∧ m.map (·.2.2) = Sp.live l ∧ w'.ownsRow w.heap.size 71 5 v (Sp.live l).length (versC m) ∧ (∀ x ∈ m, Past w0 x.1 x.2.2) ∧ Ext w w' := by
  go_enter Tryz.func114, Tryz.ntmps114
  go_wp2
  go_loopw [3, 4] (fun v3 v8 wr => ∃ k : Nat, k ≤ l.length ∧ v8 = .int .i64 k ∧ (∃ m : List (Option Addr × Nat × Sp.Ver), m.map (·.2.2) = Sp.live (l.take k) ∧ wr.ownsRow w.heap.size 71 5 v3 m.length (versC m) ∧ ∀ x ∈ m, Past w0 x.1 x.2.2) ∧ Ext w wr) (fun _ v8 _ => l.length - (intOf v8).toNat)
  case atStart => exact ⟨0, Nat.zero_le _, rfl, ⟨[], rfl, ⟨rfl, .inl ⟨rfl, rfl⟩⟩, fun _ h => by cases h⟩, Ext.refl _⟩
  case round =>
    obtain ⟨k, hk, rfl, ⟨m, hm, hown, hp⟩, hb⟩ := hrel
    by_cases hlt : k < l.length
    · obtain ⟨g, o, rfl, hc0⟩ := h.at (by omega)
      obtain ⟨A', c', hvc, hpast⟩ := hc0 k hlt
      obtain ⟨c0, c1, c2, c3, c4⟩ := hvc.ext (e0.trans hb)
      have HC := Lib.hid hpast
      have HP := Lib.hid hp
      have ml : m.length ≤ k := by
        have := congrArg List.length hm
        rw [List.length_map] at this
        rw [this]
        unfold Sp.live
        exact Nat.le_trans (List.length_filter_le _ _) (List.length_take_le _ _)
      have st : Sp.live (l.take (k + 1)) = Sp.live (l.take k) ++ if l[k].dead then [] else [l[k]] := by
        unfold Sp.live
        rw [List.take_succ_eq_append_getElem hlt, List.filter_append]
        cases hh : l[k].dead <;> simp [hh]
      have HM := Lib.hid hm
      have HO := Lib.hid hown
      clear hm hown hp hvc hpast hc0
      by_cases hd : l[k].dead = true
      · rw [hd] at c3
        rw [if_pos hd, List.append_nil] at st
        have ST := Lib.hid st
        clear st
        go_wp2_with fail
        go_roundw
        case rel => exact ⟨k + 1, by omega, by go_num, ⟨m, by rw [ST.out]; exact HM.out, HO.out, HP.out⟩, hb⟩
        case measure => simp [intOf]; omega
      · have hd' : l[k].dead = false := by simpa using hd
        rw [hd'] at c3
        rw [if_neg hd] at st
        have ST := Lib.hid st
        have HD := Lib.hid hd'
        clear st hd hd'
        go_wp2_with (at_builtin; refine app_new appVer rfl _ _ rfl w.heap.size _ m.length _ rfl (HO.out) #[.int .i64 l[k].dot.1, .int .i64 l[k].dot.2, .slice A' l[k].past.length c', .bool false, .string (strOf l[k].data)] 71 1 rfl rfl (by intro u hu; simp at hu; rcases hu with rfl | rfl | rfl | rfl | rfl <;> rfl) (by decide) (by omega) (hb.size) ?_; intro g6 cap6 w6 hown6 hgr6 hb6 hbg6; have O6 := Lib.hid hown6; have B6 := Lib.hid hb6; clear hown6 hgr6 hb6)
        go_roundw
        case rel =>
          refine ⟨k + 1, by omega, by go_num, ⟨m ++ [(A', c', l[k])], ?_, ?_, ?_⟩, B6.out.from hb⟩
          · rw [List.map_append, HM.out, ST.out]; rfl
          · rw [versC_append, List.length_append]
            have := O6.out
            simpa [versC, HD.out] using this
          · intro x hx
            rcases List.mem_append.1 hx with h1 | h1
            · exact HP.out x h1
            · obtain rfl := List.mem_singleton.1 h1
              exact HC.out
        case measure => simp [intOf]; omega
    · obtain rfl : k = l.length := by omega
      rw [List.take_length] at hm
      have HM := Lib.hid hm
      clear hm
      go_wp2
      go_ret
      refine ⟨_, m, rfl, HM.out, ?_, hp, hb⟩
      rw [← HM.out, List.length_map]
      exact hown
namespace Sp
def shownM (m : List DE) : List DE := m.filterMap fun e => if live e.2 = [] then none else some (e.1, live e.2)
theorem toP_shown (m : List DE) : toP (shownM m) = shownE (toP m) := by
  induction m with
  | nil => rfl
  | cons e r ih =>
    unfold shownM shownE toP at *
    rw [List.map_cons, List.filterMap_cons, List.filterMap_cons]
    by_cases h : live e.2 = []
    · simp only [h, if_true]; exact ih
    · simp only [h, if_false, List.map_cons]; rw [ih]
theorem shownM_step (m : List DE) (k : Nat) (h : k < m.length) : shownM (m.take (k + 1)) = shownM (m.take k) ++ if live (m[k]).2 = [] then [] else [((m[k]).1, live (m[k]).2)] := by
  unfold shownM
  rw [List.take_succ_eq_append_getElem h, List.filterMap_append]
  by_cases hl : live (m[k]).2 = [] <;> simp [hl]
theorem shownM_len (m : List DE) : (shownM m).length ≤ m.length := List.length_filterMap_le _ _
end Sp
theorem LiveAt.vers {w wr : World} {x : Option Addr × Nat × Sp.DE} (h : LiveAt w wr x) (e : Ext w wr) : Vers wr x.1 x.2.2.2 := by
  obtain ⟨mv, h1, h2, h3⟩ := h
  obtain ⟨A, c, e2, hc⟩ := own_read h2
  cases e2
  exact ⟨mv, h1, hc, fun y hy => (h3 y hy).ext e⟩
set_option maxRecDepth 100000 in
set_option maxHeartbeats 4000000 in
theorem rshown_calls (m : List Sp.DE) (A : Option Addr) (cap : Nat) (w : World) (h : EntsAt w A m) (hl : m.length ≤ 1000000) (hs : ∀ e ∈ m, e.2.length ≤ 1000000) :
    Calls Tryz.prog 50 #[.slice A m.length cap] w fun e w' => ∃ B c, e = .returned (.slice B (Sp.shownM m).length c) ∧ EntsAt w' B (Sp.shownM m) ∧ Ext w w' := by
  have HH := Lib.hid h
  have HS := Lib.hid hs
  clear h hs
  go_enter Tryz.func50, Tryz.ntmps50
  go_wp2
  go_loopw [3, 4] (fun v3 v4 wr => ∃ k : Nat, k ≤ m.length ∧ v4 = .int .i64 k ∧ (∃ mo : List (Option Addr × Nat × Sp.DE), mo.map (·.2.2) = Sp.shownM (m.take k) ∧ wr.ownsRow w.heap.size 43 2 v3 mo.length (entsC mo) ∧ ∀ x ∈ mo, LiveAt w wr x) ∧ Ext w wr) (fun _ v4 _ => m.length - (intOf v4).toNat)
  case atStart => exact ⟨0, Nat.zero_le _, rfl, ⟨[], rfl, World.ownsRow_nil _ _ _ _, fun _ h => by cases h⟩, Ext.refl _⟩
  case round =>
    obtain ⟨k, hk, rfl, ⟨mo, hm, hown, hp⟩, hb⟩ := hrel
    by_cases hlt : k < m.length
    · obtain ⟨eb, eo, rfl, he⟩ := HH.out.at (by omega)
      obtain ⟨Av, cv, c0, c1, hv⟩ := he k hlt
      have st := Sp.shownM_step m k hlt
      have hls := HS.out _ (List.getElem_mem hlt)
      obtain ⟨x, hx⟩ : ∃ x, x = m[k] := ⟨_, rfl⟩
      rw [← hx] at c0 c1 hv st hls
      have f0 := hb.cell c0
      have f1 := hb.cell c1
      have ml : mo.length ≤ k := by
        have := congrArg List.length hm
        rw [List.length_map] at this
        rw [this]
        exact Nat.le_trans (Sp.shownM_len _) (List.length_take_le _ _)
      have LV := Lib.hid (rlive2_calls x.2 Av cv w wr hb hv hls)
      have HM := Lib.hid hm
      have HO := Lib.hid hown
      have HP := Lib.hid hp
      have HB := Lib.hid hb
      have ST := Lib.hid st
      have C0 := Lib.hid c0
      have b1 : (k : Int) < (m.length : Int) := by omega
      clear hm hown hp hb st c0 c1 he hv hls hx
      go_wp2_with fail
      refine LV.out.mono ?_
      rintro e w2 ⟨v2, mv, rfl, hmv, hO2, hpv, hb2⟩
      obtain ⟨A2, c2, rfl, _⟩ := own_read hO2
      have O2 := Lib.hid hO2
      have MV := Lib.hid hmv
      have PV := Lib.hid hpv
      have B2 := Lib.hid hb2
      have E2 := Lib.hid (HB.out.trans hb2)
      clear hO2 hmv hpv hb2 f0 f1
      by_cases hl0 : Sp.live x.2 = []
      · have e1 : decide (0 < (Sp.live x.2).length) = false := by rw [hl0]; rfl
        have ST2 := Lib.hid (show Sp.shownM (m.take (k + 1)) = Sp.shownM (m.take k) by rw [ST.out, if_pos hl0, List.append_nil])
        clear hl0
        go_wp2
        go_roundw
        case rel => exact ⟨k + 1, by omega, by go_num, ⟨mo, by rw [ST2.out]; exact HM.out, own_ext HO.out B2.out, fun y hy => (HP.out y hy).keep (T := noT) (fun h => h) (KB.ext HB.out.size B2.out)⟩, E2.out⟩
        case measure => simp [intOf]; omega
      · have e1 : decide (0 < (Sp.live x.2).length) = true := decide_eq_true (List.length_pos_iff.2 hl0)
        have ST2 := Lib.hid (show Sp.shownM (m.take (k + 1)) = Sp.shownM (m.take k) ++ [(x.1, Sp.live x.2)] by rw [ST.out, if_neg hl0])
        have f0 := E2.out.cell C0.out
        clear hl0
        go_wp2_with (at_builtin; refine app_new appEnt rfl _ _ rfl w.heap.size _ mo.length _ rfl (own_ext HO.out B2.out) #[.string (strOf x.1), .slice A2 (Sp.live x.2).length c2] 43 1 rfl rfl (by intro u hu; simp at hu; rcases hu with rfl | rfl <;> rfl) (by decide) (by omega) (E2.out.size) ?_; intro g6 cap6 w6 hown6 hgr6 hb6 hbg6; have O6 := Lib.hid hown6; have G6 := Lib.hid hgr6; have B6 := Lib.hid hb6; clear hown6 hgr6 hb6 hbg6)
        have KG := Lib.hid (show KB (fun t => t = 43) w.heap.size w2 w6 from KB.grown (own_ext HO.out B2.out) rfl G6.out B6.out)
        go_roundw
        case rel =>
          refine ⟨k + 1, by omega, by go_num, ⟨mo ++ [(A2, c2, (x.1, Sp.live x.2))], ?_, ?_, fun y hy => ?_⟩, Below.trans E2.out B6.out⟩
          · rw [List.map_append, HM.out, ST2.out]; rfl
          · rw [entsC_snoc, List.length_append]
            exact O6.out
          · rcases List.mem_append.1 hy with h1 | h1
            · exact ((HP.out y h1).keep (T := noT) (fun h => h) (KB.ext HB.out.size B2.out)).keep (by intro h; cases h) KG.out
            · obtain rfl := List.mem_singleton.1 h1
              exact LiveAt.keep (T := fun t => t = 43) (by intro h; cases h) ⟨mv, MV.out, own_lowT O2.out (Nat.zero_le _), PV.out⟩ KG.out
        case measure => simp [intOf]; omega
    · obtain rfl : k = m.length := by omega
      rw [List.take_length] at hm
      have hlen : mo.length = (Sp.shownM m).length := by rw [← hm, List.length_map]
      rw [hlen] at hown
      obtain ⟨B, c, rfl, hc⟩ := own_read hown
      have HE := Lib.hid (show EntsAt wr B (Sp.shownM m) from ⟨mo, hm, hc, fun y hy => (hp y hy).vers hb⟩)
      have HB := Lib.hid hb
      clear hm hown hp hb hc hlen
      go_wp2
      go_ret
      exact ⟨B, c, rfl, HE.out, HB.out⟩
end Go.Proofs.YtmlfnidckfeebaaGreatDoor
namespace Go.Proofs.YtmlfnidckfeebaaGreatDoor
open Go.RowKit
namespace Sp
theorem lgo_filter (p : Ver → Bool) : ∀ (l : List Ver) (last last' : Option Int), (∀ x', last' = some x' → ∃ x, last = some x ∧ x' ≤ x) → lgo last l = 0 → lgo last' (l.filter p) = 0
  | [], _, _, _, _ => rfl
  | v :: r, last, last', hw, h => by
    rw [lgo] at h
    by_cases hd : vercheck v = 0
    · rw [if_neg (by simpa using hd)] at h
      by_cases hl : ∃ x, last = some x ∧ v.dot.1 ≤ x
      · rw [if_pos hl] at h; cases h
      · rw [if_neg hl] at h
        by_cases hp : p v = true
        · rw [List.filter_cons_of_pos hp, lgo, if_neg (by simpa using hd), if_neg]
          · exact lgo_filter p r _ _ (fun x' hx => ⟨x', hx, Int.le_refl _⟩) h
          · rintro ⟨x', hx', hle⟩
            obtain ⟨x, hx, hxx⟩ := hw x' hx'
            exact hl ⟨x, hx, by omega⟩
        · rw [List.filter_cons_of_neg hp]
          refine lgo_filter p r _ _ (fun x' hx => ?_) h
          obtain ⟨x, hx, hxx⟩ := hw x' hx
          refine ⟨v.dot.1, rfl, ?_⟩
          rcases Int.lt_or_le x v.dot.1 with h1 | h1
          · omega
          · exact absurd ⟨x, hx, h1⟩ hl
    · rw [if_pos hd] at h; exact absurd h hd
theorem live_leaf {l : List Ver} (h : leaf l = 0) : leaf (live l) = 0 := by
  obtain ⟨h1, h2, h3⟩ := leaf_ok h
  have a1 : ¬ 64 < (live l).length := by
    have := List.length_filter_le (fun v : Ver => !v.dead) l
    unfold live
    omega
  have a2 : lgo none (live l) = 0 := lgo_filter _ l none none (fun x' hx => by cases hx) h2
  have a3 : ((live l).any fun v => covered (live l) v) = false := by
    rw [Bool.eq_false_iff] at h3 ⊢
    intro h4
    apply h3
    rw [List.any_eq_true] at h4 ⊢
    obtain ⟨v, hv, hc⟩ := h4
    refine ⟨v, (List.mem_filter.1 hv).1, ?_⟩
    unfold covered at hc ⊢
    rw [List.any_eq_true] at hc ⊢
    obtain ⟨u, hu, hcu⟩ := hc
    exact ⟨u, (List.mem_filter.1 hu).1, hcu⟩
  unfold leaf
  rw [if_neg a1, if_neg (by simpa using a2), if_neg (by simpa using a3)]
theorem showL_names : ∀ k, List.Sublist ((showL k).map (·.1)) (k.map (·.1))
  | [] => List.Sublist.slnil
  | (n, t) :: r => by
    rw [showL]
    by_cases h : entries (showT t) = []
    · rw [if_pos h]; exact (showL_names r).cons _
    · rw [if_neg h]; exact (showL_names r).cons_cons _
mutual
theorem show_ok : ∀ t, Ok t → Ok (showT t)
  | .mk l k, h => by
    rw [showT]
    refine ⟨fun hne => ?_, List.Pairwise.sublist (showL_names k) h.2.1, show_okL k h.2.2⟩
    by_cases h0 : l = []
    · subst h0; exact absurd rfl hne
    · exact live_leaf (h.1 h0)
theorem show_okL : ∀ k, OkL k → OkL (showL k)
  | [], _ => trivial
  | (n, t) :: r, h => by
    rw [showL]
    by_cases h0 : entries (showT t) = []
    · rw [if_pos h0]; exact show_okL r h.2.2.2
    · rw [if_neg h0]; exact ⟨h.1, h0, show_ok t h.2.2.1, show_okL r h.2.2.2⟩
end
theorem shown_both {o : Option T} {m : List DE} (he : toP m = entriesO o) (ho : GoodO o) (hm : GoodM m) :
    GoodM (shownM m) ∧ Ok (showT (o.getD .nil)) ∧ sizeT (showT (o.getD .nil)) ≤ 128 ∧ toP (shownM m) = entries (showT (o.getD .nil)) := by
  have e1 : toP (shownM m) = entries (showT (o.getD .nil)) := by rw [toP_shown, he, show_entries, entries_getD]
  refine ⟨⟨fun e he2 => ?_, Nat.le_trans (shownM_len m) hm.2⟩, show_ok _ (getD_ok ho.1), ?_, e1⟩
  · unfold shownM at he2
    obtain ⟨y, hy, h2⟩ := List.mem_filterMap.1 he2
    split at h2
    · cases h2
    · cases h2; exact hm.1 y hy
  · rw [sizeT_len, ← e1, toP_len]
    exact Nat.le_trans (shownM_len m) hm.2
end Sp
end Go.Proofs.YtmlfnidckfeebaaGreatDoor
namespace Go.Proofs.YtmlfnidckfeebaaGreatDoor
open Go.RowKit Go.Shelf
namespace Sp
theorem Both.rise {o : Option T} {m : List DE} (h : Both o m) : RiseE (toP m) := by rw [h.eq]; exact riseO h.go.1
/-! Lists behind the last path. -/
theorem less_gt {a b : List Bs} (h : cmpP a b = -1) : cmpP b a = 1 := by
  rcases cmpP_range b a with h1 | h1 | h1
  · have := cmpP_trans _ _ _ h h1
    rw [cmpP_self] at this; cases this
  · have := cmpP_zero h1
    subst this
    rw [cmpP_self] at h; cases h
  · exact h1
end Sp
end Go.Proofs.YtmlfnidckfeebaaGreatDoor
namespace Go.Proofs.YtmlfnidckfeebaaGreatDoor
open Go.RowKit
namespace Sp
theorem live_live (l : List Ver) : live (live l) = live l := by unfold live; simp
theorem kind_live (l : List Ver) : kindS l (live l) = 0 := by
  have h : data0 (live l) = data0 l := by unfold data0 winner; rw [live_live]
  unfold kindS
  rw [live_live, h]
  by_cases hl : live l = [] <;> simp [hl]
theorem differ_self (t : T) : differT t t = [] := by
  unfold differT openedT
  rw [if_pos rfl]; rfl
theorem rise_ne {m : List DE} (h : RiseE (toP m)) : m.Pairwise fun a b => a.1 ≠ b.1 := by
  unfold RiseE toP at h
  rw [List.pairwise_map] at h
  refine h.imp fun {a b} hab e => ?_
  rw [e, cmpP_self] at hab
  cases hab
theorem rget_none {m : List DE} {p : Bs} (h : ∀ e ∈ m, e.1 ≠ p) : rget m p = [] := by
  induction m with
  | nil => rfl
  | cons e r ih => rw [rget, if_neg (h e (List.mem_cons_self ..))]; exact ih fun x hx => h x (List.mem_cons_of_mem _ hx)
theorem shown_mem {m : List DE} {e : DE} (h : e ∈ shownM m) : ∃ y ∈ m, y.1 = e.1 ∧ live y.2 = e.2 ∧ e.2 ≠ [] := by
  unfold shownM at h
  obtain ⟨y, hy, h2⟩ := List.mem_filterMap.1 h
  by_cases hl : live y.2 = []
  · rw [if_pos hl] at h2; cases h2
  · rw [if_neg hl] at h2
    cases h2
    exact ⟨y, hy, rfl, rfl, hl⟩
theorem rget_shown : ∀ (m : List DE), m.Pairwise (fun a b => a.1 ≠ b.1) → ∀ p, rget (shownM m) p = live (rget m p)
  | [], _, p => rfl
  | e :: r, h, p => by
    obtain ⟨h1, h2⟩ := List.pairwise_cons.1 h
    have ih := rget_shown r h2 p
    have e1 : shownM (e :: r) = if live e.2 = [] then shownM r else (e.1, live e.2) :: shownM r := by
      unfold shownM
      rw [List.filterMap_cons]
      by_cases hl : live e.2 = [] <;> simp [hl]
    rw [e1, rget]
    by_cases he : e.1 = p
    · rw [if_pos he]
      by_cases hl : live e.2 = []
      · rw [if_pos hl, hl]
        refine rget_none fun x hx => ?_
        obtain ⟨y, hy, k1, _⟩ := shown_mem hx
        rw [← k1, ← he]
        exact fun k => h1 y hy k.symm
      · rw [if_neg hl, rget, if_pos he]
    · rw [if_neg he]
      by_cases hl : live e.2 = []
      · rw [if_pos hl]; exact ih
      · rw [if_neg hl, rget, if_neg he]; exact ih
theorem rgo_snoc (p : Bs) (l : List Ver) : ∀ m : List DE, (∀ e ∈ m, cmpP (split e.1) (split p) = -1) → rgo p l false m = m ++ [(p, l)]
  | [], _ => rfl
  | e :: r, h => by
    have h1 := h e (List.mem_cons_self ..)
    have h2 := less_gt h1
    have h3 : ¬ compare p e.1 ≤ 0 := by unfold compare; rw [h2]; decide
    have h4 : ¬ e.1 = p := fun k => by rw [k, cmpP_self] at h1; cases h1
    rw [rgo, if_neg (fun k => h3 k.2), if_neg h4, decide_eq_false h3, Bool.or_false, rgo_snoc p l r fun x hx => h x (List.mem_cons_of_mem _ hx)]
    rfl
theorem rof_rise : ∀ (L m : List DE), RiseE (toP (m ++ L)) → (∀ e ∈ L, check e.1 = 0 ∧ leaf e.2 = 0 ∧ e.2 ≠ []) → (m ++ L).length ≤ 128 → rof m L = (m ++ L, 0)
  | [], m, _, _, _ => by rw [rof, List.append_nil]
  | e :: r, m, h, hc, hl => by
    obtain ⟨c1, c2, c3⟩ := hc e (List.mem_cons_self ..)
    have hr : ∀ x ∈ m, cmpP (split x.1) (split e.1) = -1 := fun x hx => by
      unfold RiseE toP at h
      rw [List.map_append, List.pairwise_append] at h
      exact h.2.2 _ (List.mem_map_of_mem hx) _ (List.mem_map_of_mem (List.mem_cons_self ..))
    have hs : rset m e.1 e.2 = m ++ [e] := by
      unfold rset
      rw [decide_eq_false c3, rgo_snoc e.1 e.2 m hr]
    have hs2 : rsetS m e.1 e.2 = (m ++ [e], 0) := by
      unfold rsetS
      rw [if_neg (by rw [c1]; decide), if_neg (by rw [c2]; decide), hs, if_neg (by rw [List.length_append] at *; simp at *; omega)]
    rw [rof, hs2, if_neg (by simp)]
    have := rof_rise r (m ++ [e]) (by rw [List.append_assoc]; exact h) (fun x hx => hc x (List.mem_cons_of_mem _ hx)) (by rw [List.append_assoc]; exact hl)
    rw [this, List.append_assoc]
    rfl
theorem still_of {o : Option T} {m : List DE} (P : Both o m) : (ofT none (shownM m)).2 = 0 ∧ Both (ofT none (shownM m)).1 (shownM m) := by
  obtain ⟨h1, h2, h3, h4⟩ := shown_both P.eq P.go P.gm
  have hr : RiseE (toP (shownM m)) := by rw [h4]; exact entries_rise _ h2
  have hrof := rof_rise (shownM m) [] hr (fun e he => by
    obtain ⟨y, hy, k1, k2, k3⟩ := shown_mem he
    refine ⟨h1.1 e he, ?_, k3⟩
    rw [← k2]
    exact live_leaf (told_leaf0 P y hy).1) h1.2
  rw [List.nil_append] at hrof
  have hb := both_of (shownM m)
  rw [hrof] at hb
  refine ⟨?_, hb⟩
  have := (of_both (shownM m) none [] rfl good_none).1
  rw [hrof] at this
  exact this.symm
theorem still_none {o : Option T} {m : List DE} (P : Both o m) : betweenS (o.getD .nil) ((ofT none (shownM m)).1.getD .nil) = [] := by
  have Q := (still_of P).2
  rw [← between_both P Q]
  unfold betweenL
  rw [List.filterMap_eq_nil_iff]
  intro p _
  rw [rget_shown m (rise_ne P.rise) p]
  unfold changeS
  rw [kind_live, if_pos rfl]
theorem self_none (t : T) : betweenS t t = [] := by
  unfold betweenS
  rw [differ_self]
  rfl
end Sp
end Go.Proofs.YtmlfnidckfeebaaGreatDoor
namespace Go.Proofs.YtmlfnidckfeebaaGreatDoor
open Go.RowKit Go.Shelf
attribute [local go_sem] yUpon strOf_toList
set_option maxRecDepth 100000 in
set_option maxHeartbeats 8000000 in
theorem watchStill_calls (l : List Sp.DE) (A : Option Addr) (cap : Nat) (w : World) (hE : EntsAt w A l) (K : KeysAt w 2) (M : MaxAt w) :
    Calls Tryz.prog 9 #[.slice A l.length cap] w fun e w' => e = .returned (.bool true) ∧ Ext w w' := by
  have HE := Lib.hid hE
  have KK := Lib.hid K
  have MM := Lib.hid M
  have AW := Lib.hid fun W (e : Ext w W) => awake46_calls W (K.ext e) (max_kept M e)
  clear K M hE
  go_enter Tryz.func9, Tryz.ntmps9
  go_wp2_with fail
  refine (great15_calls l A cap 12 w HE.out (by decide)).mono ?_
  rintro e w1 ⟨b, rfl, hgr, hb1⟩
  have B1 := Lib.hid (show Ext w w1 from hb1)
  have GR := Lib.hid hgr
  clear hb1 hgr
  cases b with
  | true =>
    go_wp2_with fail
    refine (AW.out w1 B1.out).mono ?_
    rintro e w2 ⟨rfl, hb2⟩
    go_wp2
    go_ret
    exact ⟨rfl, B1.out.trans hb2⟩
  | false =>
    obtain ⟨hla, hpa⟩ := GR.out (by first | rfl | trivial)
    clear GR
    go_wp2_with fail
    refine (of_calls l A cap w1 (HE.out.ext B1.out) (by omega) (KK.out.ext B1.out) (max_kept MM.out B1.out)).mono ?_
    rintro e w2 ⟨v2, rfl, ht2, hb2⟩
    obtain ⟨pa, rfl⟩ := tree_ptr ht2
    have T2 := Lib.hid ht2
    have B2 := Lib.hid (B1.out.trans hb2)
    clear ht2 hb2
    have PA := Lib.hid (Sp.both_of l)
    obtain ⟨ma, hma⟩ : ∃ ma, ma = (Sp.rof [] l).1 := ⟨_, rfl⟩
    rw [← hma] at PA
    obtain ⟨oa, hoa⟩ : ∃ oa, oa = (Sp.ofT none l).1 := ⟨_, rfl⟩
    rw [← hoa] at PA T2
    obtain ⟨ca, hca⟩ : ∃ ca, ca = (Sp.ofT none l).2 := ⟨_, rfl⟩
    rw [← hca]
    clear hma hoa hca hpa hla
    by_cases ha0 : ca = 0
    case neg =>
      have q1 : (ca == 0) = false := by rw [beq_eq_false_iff_ne]; exact ha0
      clear ha0
      go_wp2_with fail
      refine (AW.out w2 B2.out).mono ?_
      rintro e w3 ⟨rfl, hb3⟩
      go_wp2
      go_ret
      exact ⟨rfl, B2.out.trans hb3⟩
    subst ha0
    have EA := Lib.hid (entries_calls oa (.pointer pa) w2 T2.out PA.out.go PA.out.short (KK.out.ext B2.out))
    rw [PA.out.told] at EA
    have SA := Lib.hid fun A c W (h : EntsAt W A ma) => rshown_calls ma A c W h (Nat.le_trans PA.out.gm.2 (by decide)) (Sp.told_leaf PA.out.eq PA.out.go)
    have ml := PA.out.gm.2
    have sl : (Sp.shownM ma).length ≤ ma.length := Sp.shownM_len ma
    obtain ⟨S0, PB0⟩ := Sp.still_of PA.out
    have PB := Lib.hid PB0
    have SN := Lib.hid (Sp.still_none PA.out)
    have SS := Lib.hid (Sp.self_none (oa.getD .nil))
    have SO := Lib.hid S0
    obtain ⟨ms, hms⟩ : ∃ ms, ms = Sp.shownM ma := ⟨_, rfl⟩
    rw [← hms] at SA PB SN SO sl
    obtain ⟨ob, hob⟩ : ∃ ob, ob = (Sp.ofT none ms).1 := ⟨_, rfl⟩
    rw [← hob] at PB SN
    have HOB := Lib.hid hob
    clear S0 PB0 hms hob
    go_wp2_with fail
    refine EA.out.mono ?_
    rintro e w3 ⟨A3, c3, rfl, hE3, hb3⟩
    have B3 := Lib.hid (B2.out.trans hb3)
    have S3 := Lib.hid (SA.out A3 c3 w3 hE3)
    have E23 := Lib.hid hb3
    clear hE3 hb3 EA SA
    go_wp2_with fail
    refine S3.out.mono ?_
    rintro e w4 ⟨A4, c4, rfl, hE4, hb4⟩
    have E4 := Lib.hid hE4
    have B4 := Lib.hid (B3.out.trans hb4)
    have E24 := Lib.hid (E23.out.trans hb4)
    clear hE4 hb4 S3
    go_wp2_with fail
    refine (of_calls ms A4 c4 w4 E4.out (by omega) (KK.out.ext B4.out) (max_kept MM.out B4.out)).mono ?_
    rintro e w5 ⟨v5, rfl, ht5, hb5⟩
    rw [← HOB.out] at ht5
    obtain ⟨pb, rfl⟩ := tree_ptr ht5
    have T5 := Lib.hid ht5
    have TA := Lib.hid (T2.out.ext (E24.out.trans hb5))
    have B5 := Lib.hid (B4.out.trans hb5)
    rw [SO.out]
    have D1 := Lib.hid fun W (e : Ext w5 W) => wbetween_calls oa ob ma ms PA.out PB.out (.pointer pa) (.pointer pb) W (TA.out.ext e) (T5.out.ext e) (KK.out.ext (B5.out.trans e)) (max_kept MM.out (B5.out.trans e))
    have D2 := Lib.hid fun W (e : Ext w5 W) => wbetween_calls oa oa ma ma PA.out PA.out (.pointer pa) (.pointer pa) W (TA.out.ext e) (TA.out.ext e) (KK.out.ext (B5.out.trans e)) (max_kept MM.out (B5.out.trans e))
    rw [SN.out] at D1
    rw [SS.out] at D2
    clear ht5 hb5 PA PB SN SS SO HOB T2 T5 TA
    go_wp2_with fail
    refine (D1.out w5 (Ext.refl _)).mono ?_
    rintro e w6 ⟨v6, rfl, hO6, hb6⟩
    obtain ⟨A6, c6, rfl, _⟩ := own_read hO6
    have B6 := Lib.hid hb6
    clear hO6 hb6 D1
    go_wp2_with fail
    refine (D2.out w6 B6.out).mono ?_
    rintro e w7 ⟨v7, rfl, hO7, hb7⟩
    obtain ⟨A7, c7, rfl, _⟩ := own_read hO7
    have B7 := Lib.hid (B5.out.trans (B6.out.trans hb7))
    clear hO7 hb7 D2
    go_wp2_with fail
    refine (AW.out w7 B7.out).mono ?_
    rintro e w8 ⟨rfl, hb8⟩
    go_wp2
    go_ret
    exact ⟨rfl, B7.out.trans hb8⟩
end Go.Proofs.YtmlfnidckfeebaaGreatDoor
