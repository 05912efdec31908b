/- Walks: what is seen of entries: the document's. What is found in a tree is what the document's list has there: plain. Walks: the root's digest: the document's. What is seen of a tree is a tree; a tree's entries with whole paths: plain. -/
import Derived.Test.YtedjiaenodechaaGreatDoorTO44
import Derived.Test.YtedjiaenodechaaGreatDoorTO48
import Derived.Test.YtedjiaenodechaaGreatDoorTO12
import Derived.Test.YtedjiaenodechaaGreatDoorTO41
import Derived.Test.YtedjiaenodechaaGreatDoorTO42
import Derived.Test.YtedjiaenodechaaGreatDoorTO38
namespace Go.Proofs.YtedjiaenodechaaGreatDoor
open Go.RowKit Go.Shelf
attribute [local go_sem] yUpon strOf_toList
set_option maxRecDepth 100000 in
set_option maxHeartbeats 4000000 in
theorem rlive2_calls (l : List Sp.Ver) (A : Option Addr) (cap : Nat) (w0 w : World) (e0 : Ext w0 w) (h : Vers w0 A l) (hl : l.length ≤ 1000000) : Calls Tryz.prog 55 #[.slice A l.length cap] w fun e w' => ∃ (v : Value) (m : List (Option Addr × Nat × Sp.Ver)), e = .returned v ∧ m.map (·.2.2) = Sp.live l ∧ w'.ownsRow w.heap.size 82 5 v (Sp.live l).length (versC m) ∧ (∀ x ∈ m, Past w0 x.1 x.2.2) ∧ Ext w w' := by
  go_enter Tryz.func55, Tryz.ntmps55
  go_wp2
  go_loopw [3, 4] (fun v3 v8 wr => ∃ k : Nat, k ≤ l.length ∧ v8 = .int .i64 k ∧ (∃ m : List (Option Addr × Nat × Sp.Ver), m.map (·.2.2) = Sp.live (l.take k) ∧ wr.ownsRow w.heap.size 82 5 v3 m.length (versC m) ∧ ∀ x ∈ m, Past w0 x.1 x.2.2) ∧ Ext w wr) (fun _ v8 _ => l.length - (intOf v8).toNat)
  case atStart => exact ⟨0, Nat.zero_le _, rfl, ⟨[], rfl, ⟨rfl, .inl ⟨rfl, rfl⟩⟩, fun _ h => by cases h⟩, Ext.refl _⟩
  case round =>
    obtain ⟨k, hk, rfl, ⟨m, hm, hown, hp⟩, hb⟩ := hrel
    by_cases hlt : k < l.length
    · obtain ⟨g, o, rfl, hc0⟩ := h.at (by omega)
      obtain ⟨A', c', hvc, hpast⟩ := hc0 k hlt
      obtain ⟨c0, c1, c2, c3, c4⟩ := hvc.ext (e0.trans hb)
      have HC := Lib.hid hpast
      have HP := Lib.hid hp
      have ml : m.length ≤ k := by
        have := congrArg List.length hm
        rw [List.length_map] at this
        rw [this]
        unfold Sp.live
        exact Nat.le_trans (List.length_filter_le _ _) (List.length_take_le _ _)
      have st : Sp.live (l.take (k + 1)) = Sp.live (l.take k) ++ if l[k].dead then [] else [l[k]] := by
        unfold Sp.live
        rw [List.take_succ_eq_append_getElem hlt, List.filter_append]
        cases hh : l[k].dead <;> simp [hh]
      have HM := Lib.hid hm
      have HO := Lib.hid hown
      clear hm hown hp hvc hpast hc0
      by_cases hd : l[k].dead = true
      · rw [hd] at c3
        rw [if_pos hd, List.append_nil] at st
        have ST := Lib.hid st
        clear st
        go_wp2_with fail
        go_roundw
        case rel => exact ⟨k + 1, by omega, by go_num, ⟨m, by rw [ST.out]; exact HM.out, HO.out, HP.out⟩, hb⟩
        case measure => simp [intOf]; omega
      · have hd' : l[k].dead = false := by simpa using hd
        rw [hd'] at c3
        rw [if_neg hd] at st
        have ST := Lib.hid st
        have HD := Lib.hid hd'
        clear st hd hd'
        go_wp2_with (at_builtin; refine app_new appVer rfl _ _ rfl w.heap.size _ m.length _ rfl (HO.out) #[.int .i64 l[k].dot.1, .int .i64 l[k].dot.2, .slice A' l[k].past.length c', .bool false, .string (strOf l[k].data)] 82 1 rfl rfl (by intro u hu; simp at hu; rcases hu with rfl | rfl | rfl | rfl | rfl <;> rfl) (by decide) (by omega) (hb.size) ?_; intro g6 cap6 w6 hown6 hgr6 hb6 hbg6; have O6 := Lib.hid hown6; have B6 := Lib.hid hb6; clear hown6 hgr6 hb6)
        go_roundw
        case rel =>
          refine ⟨k + 1, by omega, by go_num, ⟨m ++ [(A', c', l[k])], ?_, ?_, ?_⟩, B6.out.from hb⟩
          · rw [List.map_append, HM.out, ST.out]; rfl
          · rw [versC_append, List.length_append]
            have := O6.out
            simpa [versC, HD.out] using this
          · intro x hx
            rcases List.mem_append.1 hx with h1 | h1
            · exact HP.out x h1
            · obtain rfl := List.mem_singleton.1 h1
              exact HC.out
        case measure => simp [intOf]; omega
    · obtain rfl : k = l.length := by omega
      rw [List.take_length] at hm
      have HM := Lib.hid hm
      clear hm
      go_wp2
      go_ret
      refine ⟨_, m, rfl, HM.out, ?_, hp, hb⟩
      rw [← HM.out, List.length_map]
      exact hown
namespace Sp
def shownM (m : List DE) : List DE := m.filterMap fun e => if live e.2 = [] then none else some (e.1, live e.2)
theorem toP_shown (m : List DE) : toP (shownM m) = shownE (toP m) := by
  induction m with
  | nil => rfl
  | cons e r ih =>
    unfold shownM shownE toP at *
    rw [List.map_cons, List.filterMap_cons, List.filterMap_cons]
    by_cases h : live e.2 = []
    · simp only [h, if_true]; exact ih
    · simp only [h, if_false, List.map_cons]; rw [ih]
theorem shownM_step (m : List DE) (k : Nat) (h : k < m.length) : shownM (m.take (k + 1)) = shownM (m.take k) ++ if live (m[k]).2 = [] then [] else [((m[k]).1, live (m[k]).2)] := by
  unfold shownM
  rw [List.take_succ_eq_append_getElem h, List.filterMap_append]
  by_cases hl : live (m[k]).2 = [] <;> simp [hl]
theorem shownM_len (m : List DE) : (shownM m).length ≤ m.length := List.length_filterMap_le _ _
end Sp
/-- An entry whose versions were gathered: their vectors were there before. -/
def LiveAt (w wr : World) (x : Option Addr × Nat × Sp.DE) : Prop := ∃ mv : List (Option Addr × Nat × Sp.Ver), mv.map (·.2.2) = x.2.2.2 ∧ wr.ownsRow 0 82 5 (.slice x.1 x.2.2.2.length x.2.1) x.2.2.2.length (versC mv) ∧ ∀ y ∈ mv, Past w y.1 y.2.2
theorem LiveAt.keep {T : TypeId → Prop} (hT : ¬ T 82) {B : Nat} {w wr w' : World} {x : Option Addr × Nat × Sp.DE} (h : LiveAt w wr x) (k : KB T B wr w') : LiveAt w w' x := by
  obtain ⟨mv, h1, h2, h3⟩ := h
  exact ⟨mv, h1, own_keep hT h2 k, h3⟩
theorem LiveAt.vers {w wr : World} {x : Option Addr × Nat × Sp.DE} (h : LiveAt w wr x) (e : Ext w wr) : Vers wr x.1 x.2.2.2 := by
  obtain ⟨mv, h1, h2, h3⟩ := h
  obtain ⟨A, c, e2, hc⟩ := own_read h2
  cases e2
  exact ⟨mv, h1, hc, fun y hy => (h3 y hy).ext e⟩
set_option maxRecDepth 100000 in
set_option maxHeartbeats 4000000 in
theorem rshown_calls (m : List Sp.DE) (A : Option Addr) (cap : Nat) (w : World) (h : EntsAt w A m) (hl : m.length ≤ 1000000) (hs : ∀ e ∈ m, e.2.length ≤ 1000000) :
    Calls Tryz.prog 27 #[.slice A m.length cap] w fun e w' => ∃ B c, e = .returned (.slice B (Sp.shownM m).length c) ∧ EntsAt w' B (Sp.shownM m) ∧ Ext w w' := by
  have HH := Lib.hid h
  have HS := Lib.hid hs
  clear h hs
  go_enter Tryz.func27, Tryz.ntmps27
  go_wp2
  go_loopw [3, 4] (fun v3 v4 wr => ∃ k : Nat, k ≤ m.length ∧ v4 = .int .i64 k ∧ (∃ mo : List (Option Addr × Nat × Sp.DE), mo.map (·.2.2) = Sp.shownM (m.take k) ∧ wr.ownsRow w.heap.size 75 2 v3 mo.length (entsC mo) ∧ ∀ x ∈ mo, LiveAt w wr x) ∧ Ext w wr) (fun _ v4 _ => m.length - (intOf v4).toNat)
  case atStart => exact ⟨0, Nat.zero_le _, rfl, ⟨[], rfl, World.ownsRow_nil _ _ _ _, fun _ h => by cases h⟩, Ext.refl _⟩
  case round =>
    obtain ⟨k, hk, rfl, ⟨mo, hm, hown, hp⟩, hb⟩ := hrel
    by_cases hlt : k < m.length
    · obtain ⟨eb, eo, rfl, he⟩ := HH.out.at (by omega)
      obtain ⟨Av, cv, c0, c1, hv⟩ := he k hlt
      have st := Sp.shownM_step m k hlt
      have hls := HS.out _ (List.getElem_mem hlt)
      obtain ⟨x, hx⟩ : ∃ x, x = m[k] := ⟨_, rfl⟩
      rw [← hx] at c0 c1 hv st hls
      have f0 := hb.cell c0
      have f1 := hb.cell c1
      have ml : mo.length ≤ k := by
        have := congrArg List.length hm
        rw [List.length_map] at this
        rw [this]
        exact Nat.le_trans (Sp.shownM_len _) (List.length_take_le _ _)
      have LV := Lib.hid (rlive2_calls x.2 Av cv w wr hb hv hls)
      have HM := Lib.hid hm
      have HO := Lib.hid hown
      have HP := Lib.hid hp
      have HB := Lib.hid hb
      have ST := Lib.hid st
      have C0 := Lib.hid c0
      have b1 : (k : Int) < (m.length : Int) := by omega
      clear hm hown hp hb st c0 c1 he hv hls hx
      go_wp2_with fail
      refine LV.out.mono ?_
      rintro e w2 ⟨v2, mv, rfl, hmv, hO2, hpv, hb2⟩
      obtain ⟨A2, c2, rfl, _⟩ := own_read hO2
      have O2 := Lib.hid hO2
      have MV := Lib.hid hmv
      have PV := Lib.hid hpv
      have B2 := Lib.hid hb2
      have E2 := Lib.hid (HB.out.trans hb2)
      clear hO2 hmv hpv hb2 f0 f1
      by_cases hl0 : Sp.live x.2 = []
      · have e1 : decide (0 < (Sp.live x.2).length) = false := by rw [hl0]; rfl
        have ST2 := Lib.hid (show Sp.shownM (m.take (k + 1)) = Sp.shownM (m.take k) by rw [ST.out, if_pos hl0, List.append_nil])
        clear hl0
        go_wp2
        go_roundw
        case rel => exact ⟨k + 1, by omega, by go_num, ⟨mo, by rw [ST2.out]; exact HM.out, own_ext HO.out B2.out, fun y hy => (HP.out y hy).keep (T := noT) (fun h => h) (KB.ext HB.out.size B2.out)⟩, E2.out⟩
        case measure => simp [intOf]; omega
      · have e1 : decide (0 < (Sp.live x.2).length) = true := decide_eq_true (List.length_pos_iff.2 hl0)
        have ST2 := Lib.hid (show Sp.shownM (m.take (k + 1)) = Sp.shownM (m.take k) ++ [(x.1, Sp.live x.2)] by rw [ST.out, if_neg hl0])
        have f0 := E2.out.cell C0.out
        clear hl0
        go_wp2_with (at_builtin; refine app_new appEnt rfl _ _ rfl w.heap.size _ mo.length _ rfl (own_ext HO.out B2.out) #[.string (strOf x.1), .slice A2 (Sp.live x.2).length c2] 75 1 rfl rfl (by intro u hu; simp at hu; rcases hu with rfl | rfl <;> rfl) (by decide) (by omega) (E2.out.size) ?_; intro g6 cap6 w6 hown6 hgr6 hb6 hbg6; have O6 := Lib.hid hown6; have G6 := Lib.hid hgr6; have B6 := Lib.hid hb6; clear hown6 hgr6 hb6 hbg6)
        have KG := Lib.hid (show KB (fun t => t = 75) w.heap.size w2 w6 from KB.grown (own_ext HO.out B2.out) rfl G6.out B6.out)
        go_roundw
        case rel =>
          refine ⟨k + 1, by omega, by go_num, ⟨mo ++ [(A2, c2, (x.1, Sp.live x.2))], ?_, ?_, fun y hy => ?_⟩, Below.trans E2.out B6.out⟩
          · rw [List.map_append, HM.out, ST2.out]; rfl
          · rw [entsC_snoc, List.length_append]
            exact O6.out
          · rcases List.mem_append.1 hy with h1 | h1
            · exact ((HP.out y h1).keep (T := noT) (fun h => h) (KB.ext HB.out.size B2.out)).keep (by intro h; cases h) KG.out
            · obtain rfl := List.mem_singleton.1 h1
              exact LiveAt.keep (T := fun t => t = 75) (by intro h; cases h) ⟨mv, MV.out, own_lowT O2.out (Nat.zero_le _), PV.out⟩ KG.out
        case measure => simp [intOf]; omega
    · obtain rfl : k = m.length := by omega
      rw [List.take_length] at hm
      have hlen : mo.length = (Sp.shownM m).length := by rw [← hm, List.length_map]
      rw [hlen] at hown
      obtain ⟨B, c, rfl, hc⟩ := own_read hown
      have HE := Lib.hid (show EntsAt wr B (Sp.shownM m) from ⟨mo, hm, hc, fun y hy => (hp y hy).vers hb⟩)
      have HB := Lib.hid hb
      clear hm hown hp hb hc hlen
      go_wp2
      go_ret
      exact ⟨B, c, rfl, HE.out, HB.out⟩
end Go.Proofs.YtedjiaenodechaaGreatDoor
namespace Go.Proofs.YtedjiaenodechaaGreatDoor
open Go.RowKit
section
variable {P : Program} {ops : Array Oper} {T : World → Prop}
theorem floatT_no' {a : Act} {o : Oper} {K : Act → Prop} (hw : Region.wanted o (yielded ops a.tmps) = false) (h : K (a.put o.dst undef)) : ∃ v, YieldsT P ops T o v a ∧ K (a.put o.dst v) := ⟨undef, .inr ⟨hw, rfl⟩, h⟩
end
namespace Sp
theorem findT_small : ∀ (d : List Bs) (t s : T), findT t d = some s → sizeT s ≤ sizeT t
  | [], t, s, e => by cases e; exact Nat.le_refl _
  | n :: d, t, s, e => by
    rw [findT] at e
    cases hk : kid t.kids n with
    | none => rw [hk] at e; cases e
    | some u =>
      rw [hk] at e
      have h1 := kid_size t.kids n u hk
      have h2 := sizeT_n0 t
      have h3 := findT_small d u s e
      omega
theorem find_both {o : Option T} {m : List DE} (he : toP m = entriesO o) (ho : GoodO o) (hm : GoodM m) {d : Bs} {s : T} (h : findS (o.getD .nil) d = some s) :
    Dir d ∧ Ok s ∧ sizeT s ≤ 128 ∧ subs (toP m) (parts d) = entries s := by
  have hf : Dir d ∧ findT (o.getD .nil) (parts d) = some s := by
    unfold findS at h
    by_cases h0 : d = []
    · rw [if_pos h0] at h
      subst h0
      exact ⟨.inl rfl, h⟩
    · rw [if_neg h0] at h
      by_cases h1 : parts d = []
      · rw [if_pos h1] at h; cases h
      · rw [if_neg h1] at h
        exact ⟨.inr (check_of_parts h1), h⟩
  obtain ⟨h1, h2⟩ := at_both he ho hm d hf.1
  refine ⟨hf.1, (h2 s hf.2).1, ?_, by rw [h1, hf.2]; rfl⟩
  have h3 := findT_small _ _ _ hf.2
  rw [getD_size] at h3
  exact Nat.le_trans h3 ho.2
end Sp
end Go.Proofs.YtedjiaenodechaaGreatDoor
namespace Go.Proofs.YtedjiaenodechaaGreatDoor
open Go.RowKit Go.Shelf
attribute [local go_sem] yUpon strOf_toList
set_option maxRecDepth 100000 in
set_option maxHeartbeats 4000000 in
theorem rroot_calls (m : List Sp.DE) (hm : Sp.GoodM m) (A : Option Addr) (cap : Nat) (s : Sp.T) (w : World) (hok : Sp.Ok s) (hsz : Sp.sizeT s ≤ 200) (hsub : Sp.toP m = Sp.entries s) (hE : EntsAt w A m) (K : KeysAt w 0) :
    Calls Tryz.prog 25 #[.slice A m.length cap] w fun e w' => e = .returned (digV (Sp.nsum (Sp.nodeT s))) ∧ Ext w w' := by
  have RN := Lib.hid (show ∀ W, Ext w W → Calls Tryz.prog 16 #[.slice A m.length cap, .string ⟨#[]⟩] W fun e w' => ∃ A2 c2 B2 c3, e = .returned (nodeV A2 (Sp.nodeT s).1.length c2 B2 (Sp.nodeT s).2.length c3) ∧ Vers w' A2 (Sp.nodeT s).1 ∧ Kids w' B2 (Sp.nodeT s).2 ∧ Ext W w' from fun W e => by
    have nl : (Sp.nodeT s).2.length = s.kids.length := by rw [nodeT_kids, List.length_map]
    have := rnode_calls m hm A cap 5 [] s W (by omega) (.inl rfl) hok hsz (by rw [Sp.parts_empty]; rw [hsub]; exact (Sp.findT_subs [] s hok).1) (hE.ext e) (K.ext e)
    rw [← nl, ← nodeT_leaf] at this
    rw [show strOf [] = ⟨#[]⟩ from rfl] at this
    exact this)
  obtain ⟨ds, hds⟩ : ∃ ds, ds = (Sp.nsum (Sp.nodeT s)).map byteV := ⟨_, rfl⟩
  have RS := Lib.hid (show ∀ A c B c' W, Vers W A (Sp.nodeT s).1 → Kids W B (Sp.nodeT s).2 → KeysAt W 0 → Calls Tryz.prog 46 #[nodeV A (Sp.nodeT s).1.length c B (Sp.nodeT s).2.length c'] W fun e w' => e = .returned (.agg ds.toArray) ∧ Ext W w' from fun A c B c' W hv hk hK => by
    have l0 : Sp.leaf s.leaf = 0 := by
      cases hs2 : s with
      | mk leaf kids =>
        rw [hs2] at hok
        by_cases h0 : leaf = []
        · rw [h0]; rfl
        · exact hok.1 h0
    have kb : (Sp.nodeT s).2.length ≤ 200 := by
      have h1 := Sp.kids_size s.kids (ok_rise hok).2
      have h2 := Sp.sizeT_n0 s
      rw [nodeT_kids, List.length_map]
      omega
    have := rnsum_calls (Sp.nodeT s) A B c c' W hv hk (by rw [nodeT_leaf]; exact Nat.le_trans (Sp.leaf_ok l0).1 (by decide)) (by rw [nodeT_leaf]; exact fun v hv => ⟨Nat.le_trans (Sp.leaf_data l0 v hv) (by decide), Nat.le_trans ((Sp.leaf_fit fun _ => l0).2 v hv) (by decide)⟩) (Nat.le_trans kb (by decide)) hK
    rw [hds]
    exact this)
  have DL := Lib.hid (show ds.length = 32 by rw [hds, List.length_map, Sp.nsum_len])
  have HD := Lib.hid hds
  have AS := Lib.hid (show ds.toArray.size = 32 by rw [List.size_toArray, hds, List.length_map, Sp.nsum_len])
  have DA := Lib.hid (show ds.toArray.all (·.oneCell') = true by rw [hds]; exact all_oneCell_toArray (bytes_one _))
  have KK := Lib.hid K
  have tok1 : True := trivial
  have tok3 : True := trivial
  clear hE K hds hok hsz hsub hm
  go_enter Tryz.func25, Tryz.ntmps25
  go_wp2_with (have _t := tok1; ((with_reducible refine at_alloc (t := 41) rfl ?_); refine box_new rfl (cs := zero32) (t := 41) (by first | (go_simp; done) | (go_simp; rfl)) ?_; intro g2 w2 hg2 hx2 hb2; have H2 := Lib.hid hx2; have B2 := Lib.hid (show Ext w w2 from hb2); have GG2 := Lib.hid hg2; clear tok1 _t hx2 hb2 hg2))
  refine (RN.out w2 B2.out).mono ?_
  rintro e w3 ⟨A3, c3, B3, c4, rfl, hv, hk, hb3⟩
  have H3 := Lib.hid (H2.out.below hb3)
  have E3 := Lib.hid (B2.out.trans hb3)
  have V3 := Lib.hid hv
  have K3 := Lib.hid hk
  clear hv hk hb3
  go_wp2_with fail
  refine (RS.out _ _ _ _ w3 V3.out K3.out (KK.out.ext E3.out)).mono ?_
  rintro e w4 ⟨rfl, hb4⟩
  have H4 := Lib.hid (H3.out.below hb4)
  have E4 := Lib.hid (E3.out.trans hb4)
  clear hb4
  go_wp2_with (have _t := tok3; ((with_reducible refine at_store (t := 41) rfl ?_); refine wpList_store_row rfl _ _ _ rfl g2 ds.toArray rfl rfl 41 _ H4.out (by rw [AS.out]; kernel_rfl) (by rw [AS.out]; rfl) DA.out ?_; clear tok3 _t))
  refine bodyPost_ret (results_cell_row rfl _ _ g2 41 ds.toArray (0, 0) _ rfl (setRow_heap _ _ _ _ _ _ H4.out) Tryz.underlying41 rfl (by rw [AS.out]; kernel_rfl)) rfl ?_
  exact ⟨by rw [HD.out]; rfl, below_setRow E4.out GG2.out _⟩
end Go.Proofs.YtedjiaenodechaaGreatDoor
namespace Go.Proofs.YtedjiaenodechaaGreatDoor
open Go.RowKit
namespace Sp
theorem lgo_filter (p : Ver → Bool) : ∀ (l : List Ver) (last last' : Option Int), (∀ x', last' = some x' → ∃ x, last = some x ∧ x' ≤ x) → lgo last l = 0 → lgo last' (l.filter p) = 0
  | [], _, _, _, _ => rfl
  | v :: r, last, last', hw, h => by
    rw [lgo] at h
    by_cases hd : vercheck v = 0
    · rw [if_neg (by simpa using hd)] at h
      by_cases hl : ∃ x, last = some x ∧ v.dot.1 ≤ x
      · rw [if_pos hl] at h; cases h
      · rw [if_neg hl] at h
        by_cases hp : p v = true
        · rw [List.filter_cons_of_pos hp, lgo, if_neg (by simpa using hd), if_neg]
          · exact lgo_filter p r _ _ (fun x' hx => ⟨x', hx, Int.le_refl _⟩) h
          · rintro ⟨x', hx', hle⟩
            obtain ⟨x, hx, hxx⟩ := hw x' hx'
            exact hl ⟨x, hx, by omega⟩
        · rw [List.filter_cons_of_neg hp]
          refine lgo_filter p r _ _ (fun x' hx => ?_) h
          obtain ⟨x, hx, hxx⟩ := hw x' hx
          refine ⟨v.dot.1, rfl, ?_⟩
          rcases Int.lt_or_le x v.dot.1 with h1 | h1
          · omega
          · exact absurd ⟨x, hx, h1⟩ hl
    · rw [if_pos hd] at h; exact absurd h hd
theorem live_leaf {l : List Ver} (h : leaf l = 0) : leaf (live l) = 0 := by
  obtain ⟨h1, h2, h3⟩ := leaf_ok h
  have a1 : ¬ 64 < (live l).length := by
    have := List.length_filter_le (fun v : Ver => !v.dead) l
    unfold live
    omega
  have a2 : lgo none (live l) = 0 := lgo_filter _ l none none (fun x' hx => by cases hx) h2
  have a3 : ((live l).any fun v => covered (live l) v) = false := by
    rw [Bool.eq_false_iff] at h3 ⊢
    intro h4
    apply h3
    rw [List.any_eq_true] at h4 ⊢
    obtain ⟨v, hv, hc⟩ := h4
    refine ⟨v, (List.mem_filter.1 hv).1, ?_⟩
    unfold covered at hc ⊢
    rw [List.any_eq_true] at hc ⊢
    obtain ⟨u, hu, hcu⟩ := hc
    exact ⟨u, (List.mem_filter.1 hu).1, hcu⟩
  unfold leaf
  rw [if_neg a1, if_neg (by simpa using a2), if_neg (by simpa using a3)]
theorem showL_names : ∀ k, List.Sublist ((showL k).map (·.1)) (k.map (·.1))
  | [] => List.Sublist.slnil
  | (n, t) :: r => by
    rw [showL]
    by_cases h : entries (showT t) = []
    · rw [if_pos h]; exact (showL_names r).cons _
    · rw [if_neg h]; exact (showL_names r).cons_cons _
mutual
theorem show_ok : ∀ t, Ok t → Ok (showT t)
  | .mk l k, h => by
    rw [showT]
    refine ⟨fun hne => ?_, List.Pairwise.sublist (showL_names k) h.2.1, show_okL k h.2.2⟩
    by_cases h0 : l = []
    · subst h0; exact absurd rfl hne
    · exact live_leaf (h.1 h0)
theorem show_okL : ∀ k, OkL k → OkL (showL k)
  | [], _ => trivial
  | (n, t) :: r, h => by
    rw [showL]
    by_cases h0 : entries (showT t) = []
    · rw [if_pos h0]; exact show_okL r h.2.2.2
    · rw [if_neg h0]; exact ⟨h.1, h0, show_ok t h.2.2.1, show_okL r h.2.2.2⟩
end
theorem told_eq {o : Option T} {m : List DE} (he : toP m = entriesO o) : told o = m := by
  unfold told
  rw [← he]
  unfold toP
  rw [List.map_map]
  conv => rhs; rw [← List.map_id m]
  refine List.map_congr_left fun e _ => ?_
  show (joinP (split e.1), e.2) = e
  rw [join_split]
theorem told_short {o : Option T} {m : List DE} (he : toP m = entriesO o) (hm : GoodM m) : ∀ x ∈ entriesO o, x.1.length ≤ 60 := fun x hx => by
  rw [← he] at hx
  obtain ⟨e, h1, rfl⟩ := List.mem_map.1 hx
  exact Nat.le_trans (check_parts (hm.1 e h1)).2.2.1 (by decide)
theorem told_leaf {o : Option T} {m : List DE} (he : toP m = entriesO o) (ho : GoodO o) : ∀ e ∈ m, e.2.length ≤ 1000000 := fun e h => by
  have : (split e.1, e.2) ∈ entriesO o := by rw [← he]; exact List.mem_map_of_mem h
  exact (told_fit ho _ this).1
theorem shown_both {o : Option T} {m : List DE} (he : toP m = entriesO o) (ho : GoodO o) (hm : GoodM m) :
    GoodM (shownM m) ∧ Ok (showT (o.getD .nil)) ∧ sizeT (showT (o.getD .nil)) ≤ 128 ∧ toP (shownM m) = entries (showT (o.getD .nil)) := by
  have e1 : toP (shownM m) = entries (showT (o.getD .nil)) := by rw [toP_shown, he, show_entries, entries_getD]
  refine ⟨⟨fun e he2 => ?_, Nat.le_trans (shownM_len m) hm.2⟩, show_ok _ (getD_ok ho.1), ?_, e1⟩
  · unfold shownM at he2
    obtain ⟨y, hy, h2⟩ := List.mem_filterMap.1 he2
    split at h2
    · cases h2
    · cases h2; exact hm.1 y hy
  · rw [sizeT_len, ← e1, toP_len]
    exact Nat.le_trans (shownM_len m) hm.2
end Sp
end Go.Proofs.YtedjiaenodechaaGreatDoor
