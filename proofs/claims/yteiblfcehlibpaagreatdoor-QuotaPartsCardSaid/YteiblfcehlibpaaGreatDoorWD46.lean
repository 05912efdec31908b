/- Walks: the root's digest: the document's. What is seen of a tree is a tree; a tree's entries with whole paths: plain. Walks: the document's Under and Count; walk.Count. -/
import Derived.Test.YteiblfcehlibpaaGreatDoorWD45
import Derived.Test.YteiblfcehlibpaaGreatDoorWD44
namespace Go.Proofs.YteiblfcehlibpaaGreatDoor
open Go.RowKit Go.Shelf
attribute [local go_sem] yUpon strOf_toList
end Go.Proofs.YteiblfcehlibpaaGreatDoor
namespace Go.Proofs.YteiblfcehlibpaaGreatDoor
open Go.RowKit
namespace Sp
theorem lgo_filter (p : Ver → Bool) : ∀ (l : List Ver) (last last' : Option Int), (∀ x', last' = some x' → ∃ x, last = some x ∧ x' ≤ x) → lgo last l = 0 → lgo last' (l.filter p) = 0
  | [], _, _, _, _ => rfl
  | v :: r, last, last', hw, h => by
    rw [lgo] at h
    by_cases hd : vercheck v = 0
    · rw [if_neg (by simpa using hd)] at h
      by_cases hl : ∃ x, last = some x ∧ v.dot.1 ≤ x
      · rw [if_pos hl] at h; cases h
      · rw [if_neg hl] at h
        by_cases hp : p v = true
        · rw [List.filter_cons_of_pos hp, lgo, if_neg (by simpa using hd), if_neg]
          · exact lgo_filter p r _ _ (fun x' hx => ⟨x', hx, Int.le_refl _⟩) h
          · rintro ⟨x', hx', hle⟩
            obtain ⟨x, hx, hxx⟩ := hw x' hx'
            exact hl ⟨x, hx, by omega⟩
        · rw [List.filter_cons_of_neg hp]
          refine lgo_filter p r _ _ (fun x' hx => ?_) h
          obtain ⟨x, hx, hxx⟩ := hw x' hx
          refine ⟨v.dot.1, rfl, ?_⟩
          rcases Int.lt_or_le x v.dot.1 with h1 | h1
          · omega
          · exact absurd ⟨x, hx, h1⟩ hl
    · rw [if_pos hd] at h; exact absurd h hd
theorem live_leaf {l : List Ver} (h : leaf l = 0) : leaf (live l) = 0 := by
  obtain ⟨h1, h2, h3⟩ := leaf_ok h
  have a1 : ¬ 64 < (live l).length := by
    have := List.length_filter_le (fun v : Ver => !v.dead) l
    unfold live
    omega
  have a2 : lgo none (live l) = 0 := lgo_filter _ l none none (fun x' hx => by cases hx) h2
  have a3 : ((live l).any fun v => covered (live l) v) = false := by
    rw [Bool.eq_false_iff] at h3 ⊢
    intro h4
    apply h3
    rw [List.any_eq_true] at h4 ⊢
    obtain ⟨v, hv, hc⟩ := h4
    refine ⟨v, (List.mem_filter.1 hv).1, ?_⟩
    unfold covered at hc ⊢
    rw [List.any_eq_true] at hc ⊢
    obtain ⟨u, hu, hcu⟩ := hc
    exact ⟨u, (List.mem_filter.1 hu).1, hcu⟩
  unfold leaf
  rw [if_neg a1, if_neg (by simpa using a2), if_neg (by simpa using a3)]
theorem showL_names : ∀ k, List.Sublist ((showL k).map (·.1)) (k.map (·.1))
  | [] => List.Sublist.slnil
  | (n, t) :: r => by
    rw [showL]
    by_cases h : entries (showT t) = []
    · rw [if_pos h]; exact (showL_names r).cons _
    · rw [if_neg h]; exact (showL_names r).cons_cons _
mutual
theorem show_ok : ∀ t, Ok t → Ok (showT t)
  | .mk l k, h => by
    rw [showT]
    refine ⟨fun hne => ?_, List.Pairwise.sublist (showL_names k) h.2.1, show_okL k h.2.2⟩
    by_cases h0 : l = []
    · subst h0; exact absurd rfl hne
    · exact live_leaf (h.1 h0)
theorem show_okL : ∀ k, OkL k → OkL (showL k)
  | [], _ => trivial
  | (n, t) :: r, h => by
    rw [showL]
    by_cases h0 : entries (showT t) = []
    · rw [if_pos h0]; exact show_okL r h.2.2.2
    · rw [if_neg h0]; exact ⟨h.1, h0, show_ok t h.2.2.1, show_okL r h.2.2.2⟩
end
theorem told_eq {o : Option T} {m : List DE} (he : toP m = entriesO o) : told o = m := by
  unfold told
  rw [← he]
  unfold toP
  rw [List.map_map]
  conv => rhs; rw [← List.map_id m]
  refine List.map_congr_left fun e _ => ?_
  show (joinP (split e.1), e.2) = e
  rw [join_split]
theorem told_short {o : Option T} {m : List DE} (he : toP m = entriesO o) (hm : GoodM m) : ∀ x ∈ entriesO o, x.1.length ≤ 60 := fun x hx => by
  rw [← he] at hx
  obtain ⟨e, h1, rfl⟩ := List.mem_map.1 hx
  exact Nat.le_trans (check_parts (hm.1 e h1)).2.2.1 (by decide)
theorem told_leaf {o : Option T} {m : List DE} (he : toP m = entriesO o) (ho : GoodO o) : ∀ e ∈ m, e.2.length ≤ 1000000 := fun e h => by
  have : (split e.1, e.2) ∈ entriesO o := by rw [← he]; exact List.mem_map_of_mem h
  exact (told_fit ho _ this).1
theorem shown_both {o : Option T} {m : List DE} (he : toP m = entriesO o) (ho : GoodO o) (hm : GoodM m) :
    GoodM (shownM m) ∧ Ok (showT (o.getD .nil)) ∧ sizeT (showT (o.getD .nil)) ≤ 128 ∧ toP (shownM m) = entries (showT (o.getD .nil)) := by
  have e1 : toP (shownM m) = entries (showT (o.getD .nil)) := by rw [toP_shown, he, show_entries, entries_getD]
  refine ⟨⟨fun e he2 => ?_, Nat.le_trans (shownM_len m) hm.2⟩, show_ok _ (getD_ok ho.1), ?_, e1⟩
  · unfold shownM at he2
    obtain ⟨y, hy, h2⟩ := List.mem_filterMap.1 he2
    split at h2
    · cases h2
    · cases h2; exact hm.1 y hy
  · rw [sizeT_len, ← e1, toP_len]
    exact Nat.le_trans (shownM_len m) hm.2
end Sp
end Go.Proofs.YteiblfcehlibpaaGreatDoor
namespace Go.Proofs.YteiblfcehlibpaaGreatDoor
open Go.RowKit Go.Shelf
attribute [local go_sem] yUpon strOf_toList
namespace Sp
theorem behind_root (d p : Bs) : behind d [] p = under p d := by
  unfold behind
  by_cases h : check p = 0
  · have h2 : compare p [] = 1 := by
      have h3 := (check_parts h).2.2.2
      have h4 := split_ne p
      unfold compare
      cases e : split p with
      | nil => exact absurd e h4
      | cons a r =>
        rw [e] at h3
        have ha : name a = true := List.all_eq_true.1 h3 a (List.mem_cons_self ..)
        have hne : a ≠ [] := by rintro rfl; exact absurd ha (by decide)
        show cmpP (a :: r) [[]] = 1
        rw [cmpP, if_neg hne]
        cases a with
        | nil => exact absurd rfl hne
        | cons c t => rfl
    rw [h2]
    simp
  · rw [under_no h]; rfl
theorem wlist_all (m : List DE) (d : Bs) : wlist m d [] (m.length : Int) = wunder m d := by
  unfold wlist wunder
  have : (fun e : DE => behind d [] e.1) = fun e => under e.1 d := by funext e; exact behind_root d e.1
  rw [this, Int.toNat_natCast, List.take_of_length_le (List.length_filter_le _ _)]
def rcountS (m : List DE) (d : Bs) : Nat := (wunder m d).length + (m.filter fun e => decide (e.1 = d)).length
def wcountS (o : Option T) (d : Bs) : Nat := (wunder (told o) d).length + if (nodeS (o.getD .nil) d).1 ≠ [] ∧ d ≠ [] then 1 else 0
theorem wunder_len (m : List DE) (d : Bs) : (wunder m d).length ≤ m.length := List.length_filter_le _ _
end Sp
set_option maxRecDepth 100000 in
set_option maxHeartbeats 2000000 in
theorem rwunder_calls (l : List Sp.DE) (A : Option Addr) (cap : Nat) (d : Sp.Bs) (w : World) (h : EntsAt w A l) (hl : l.length ≤ 1000) (hpl : ∀ e ∈ l, e.1.length ≤ 1000000) (hdl : d.length ≤ 1000000) :
    Calls Tryz.prog 43 #[.slice A l.length cap, .string (strOf d)] w fun e w' => ∃ B c, e = .returned (.slice B (Sp.wunder l d).length c) ∧ EntsAt w' B (Sp.wunder l d) ∧ Ext w w' := by
  have LC := Lib.hid (rlist_calls l A cap d [] (l.length : Int) w h hl hpl hdl (by decide))
  rw [Sp.wlist_all] at LC
  clear h hpl
  go_enter Tryz.func43, Tryz.ntmps43
  go_wp2_with fail
  refine LC.out.mono ?_
  rintro e w2 ⟨B, c, rfl, hE, hb⟩
  have HE := Lib.hid hE
  clear hE
  go_wp2
  go_ret
  exact ⟨B, c, rfl, HE.out, hb⟩
set_option maxRecDepth 100000 in
set_option maxHeartbeats 4000000 in
theorem rcount_calls (l : List Sp.DE) (A : Option Addr) (cap : Nat) (d : Sp.Bs) (w : World) (h : EntsAt w A l) (hl : l.length ≤ 1000) (hpl : ∀ e ∈ l, e.1.length ≤ 1000000) (hdl : d.length ≤ 1000000) :
    Calls Tryz.prog 45 #[.slice A l.length cap, .string (strOf d)] w fun e w' => e = .returned (.int .i64 (Sp.rcountS l d)) ∧ Ext w w' := by
  have UC := Lib.hid (rwunder_calls l A cap d w h hl hpl hdl)
  have HH := Lib.hid h
  have u1 := Sp.wunder_len l d
  have RC := Lib.hid (show Sp.rcountS l d = (Sp.wunder l d).length + (l.filter fun e => decide (e.1 = d)).length from rfl)
  obtain ⟨u, hu⟩ : ∃ u, u = (Sp.wunder l d).length := ⟨_, rfl⟩
  rw [← hu] at UC RC u1
  clear h hpl hu
  go_enter Tryz.func45, Tryz.ntmps45
  go_wp2_with fail
  refine UC.out.mono ?_
  rintro e w2 ⟨B, c, rfl, _, hb⟩
  have E2 := Lib.hid hb
  clear hb
  go_wp2
  go_loopw [5, 6] (fun v5 v6 wr => ∃ k n : Nat, k ≤ l.length ∧ n ≤ k ∧ v6 = .int .i64 k ∧ v5 = .int .i64 ((u + n : Nat) : Int) ∧ n = ((l.take k).filter fun e => decide (e.1 = d)).length ∧ w2 = wr) (fun _ v6 _ => l.length - (intOf v6).toNat)
  case atStart => exact ⟨0, 0, Nat.zero_le _, Nat.le_refl _, rfl, by rw [Nat.add_zero], by simp, rfl⟩
  case round =>
    obtain ⟨k, n, hk, hnk, rfl, rfl, hn, rfl⟩ := hrel
    by_cases hlt : k < l.length
    · obtain ⟨eb, eo, rfl, he⟩ := HH.out.at (by omega)
      obtain ⟨Av, cv, c0, c1, hv⟩ := he k hlt
      obtain ⟨x, hx⟩ : ∃ x, x = l[k] := ⟨_, rfl⟩
      have ST := Lib.hid (show ((l.take (k + 1)).filter fun e => decide (e.1 = d)).length = n + if x.1 = d then 1 else 0 by
        rw [List.take_succ_eq_append_getElem hlt, List.filter_append, List.length_append, ← hn, ← hx]
        congr 1
        by_cases h : x.1 = d <;> simp [h])
      rw [← hx] at c0
      have x0 := E2.out.cell c0
      have b1 : (k : Int) < (l.length : Int) := by omega
      clear he hx hv c1 c0 hn
      by_cases hp : x.1 = d
      · have e1 : (x.1 == d) = true := by rw [hp]; exact beq_self_eq_true _
        have ST2 := Lib.hid (show ((l.take (k + 1)).filter fun e => decide (e.1 = d)).length = n + 1 by rw [ST.out, if_pos hp])
        clear hp
        go_wp2
        go_roundw
        case rel => exact ⟨k + 1, n + 1, by omega, by omega, by go_num, by go_num, ST2.out.symm, by first | rfl | trivial⟩
        case measure => simp [intOf]; omega
      · have e1 : (x.1 == d) = false := by rw [beq_eq_false_iff_ne]; exact hp
        have ST2 := Lib.hid (show ((l.take (k + 1)).filter fun e => decide (e.1 = d)).length = n by rw [ST.out, if_neg hp]; rfl)
        clear hp
        go_wp2
        go_roundw
        case rel => exact ⟨k + 1, n, by omega, by omega, by go_num, rfl, ST2.out.symm, by first | rfl | trivial⟩
        case measure => simp [intOf]; omega
    · obtain rfl : k = l.length := by omega
      rw [List.take_length] at hn
      have RC2 := Lib.hid (show Sp.rcountS l d = u + n by rw [RC.out, hn])
      clear hn
      go_wp2
      go_ret
      exact ⟨by rw [RC2.out]; rfl, E2.out⟩
set_option maxRecDepth 100000 in
set_option maxHeartbeats 4000000 in
theorem wcount_calls (o : Option Sp.T) (v : Value) (d : Sp.Bs) (w : World) (hT : TreeAt w v o) (hg : Sp.GoodO o) (hd : ∀ x ∈ Sp.entriesO o, x.1.length ≤ 60) (hs : ∀ e ∈ Sp.told o, e.1.length ≤ 1000) (hl : (Sp.told o).length ≤ 1000) (K : KeysAt w 4) (M : MaxAt w) :
    Calls Tryz.prog 44 #[v, .string (strOf d)] w fun e w' => e = .returned (.int .i64 (Sp.wcountS o d)) ∧ Ext w w' := by
  have UC := Lib.hid (wunder_calls o v d w hT hg hd hs hl K M)
  have GC := Lib.hid fun W (e : Ext w W) => tget_calls o v d W (hT.ext e) hg (K.ext e) (max_kept M e)
  have WC := Lib.hid (show Sp.wcountS o d = (Sp.wunder (Sp.told o) d).length + if (Sp.nodeS (o.getD .nil) d).1 ≠ [] ∧ d ≠ [] then 1 else 0 from rfl)
  have u1 := Sp.wunder_len (Sp.told o) d
  obtain ⟨a, rfl⟩ := tree_ptr hT
  obtain ⟨q, hq⟩ : ∃ q, q = Sp.wunder (Sp.told o) d := ⟨_, rfl⟩
  obtain ⟨lf, hlf⟩ : ∃ lf, lf = (Sp.nodeS (o.getD .nil) d).1 := ⟨_, rfl⟩
  rw [← hq] at UC WC u1
  rw [← hlf] at GC WC
  clear hT hg hd hs K M hq hlf
  go_enter Tryz.func44, Tryz.ntmps44
  go_wp2_with fail
  refine UC.out.mono ?_
  rintro e w2 ⟨v2, rfl, hO, hb⟩
  obtain ⟨A2, c2, rfl, _⟩ := hO.read
  have E2 := Lib.hid hb
  clear hb hO
  go_wp2_with fail
  refine (GC.out w2 E2.out).mono ?_
  rintro e w3 ⟨A3, c3, rfl, _, hb3⟩
  have E3 := Lib.hid (E2.out.trans hb3)
  clear hb3
  by_cases h0 : lf = []
  · subst h0
    have r := Lib.hid (show Sp.wcountS o d = q.length by rw [WC.out]; simp)
    go_wp2
    go_ret
    exact ⟨by rw [r.out]; rfl, E3.out⟩
  · have n0 : 0 < lf.length := List.length_pos_iff.2 h0
    obtain ⟨n, hn⟩ : ∃ n, n = lf.length := ⟨_, rfl⟩
    rw [← hn] at n0 ⊢
    have n1 : (0 : Int) < (n : Int) := by omega
    by_cases hdd : d = []
    · subst hdd
      have r := Lib.hid (show Sp.wcountS o [] = q.length by rw [WC.out]; simp)
      have c1 : (([] : List UInt8).isEmpty) = true := rfl
      clear h0 hn
      go_wp2
      go_ret
      exact ⟨by rw [r.out]; rfl, E3.out⟩
    · have r := Lib.hid (show Sp.wcountS o d = q.length + 1 by rw [WC.out, if_pos ⟨h0, hdd⟩])
      have c5 : d.isEmpty = false := by cases d with | nil => exact absurd rfl hdd | cons _ _ => rfl
      have c6 : (d == []) = false := by rw [beq_eq_false_iff_ne]; exact hdd
      clear h0 hn hdd
      go_wp2
      go_ret
      exact ⟨by rw [r.out]; rfl, E3.out⟩
end Go.Proofs.YteiblfcehlibpaaGreatDoor
