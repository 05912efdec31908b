/- Walks: the document's node of a directory is the tree's. What is found in a tree is what the document's list has there: plain. What is seen of a tree is a tree; a tree's entries with whole paths: plain. Walks: whether leaves, and entries, are too much to be asked. Walks: chapter 15's examples. Walks: texts that are the same; the first path behind a text; what holds of a tree and the document's list. Walks, plain: Count is the document's; what is listed behind the last path; what is below a directory, in parts. Walks: pins: the place of a tree that is of use. Deltas: a name below a directory; do two lists differ at a directory? Deltas: a text in a rising list; the names below a directory, of two lists. Deltas: the names right below a directory, of two lists. An append of cells, and where the row lies then: where it lay, or in a new block. Deltas: which directories the document opens. Deltas: what the document says is opened, and where leaves differ. A struct that is built, as one operation of a walk. Deltas: what two nodes have by a name (rows of 67 cells). Deltas, plain: what is opened by the nodes of two trees is what the document opens. -/
import Derived.Stop.BytesEq
import Derived.Test.YtmlfnidckfeebaaGreatDoorRF021
namespace Go.Proofs.YtmlfnidckfeebaaGreatDoor
open Go.RowKit Go.Shelf
theorem dir_len {d : Sp.Bs} (h : Sp.Dir d) : d.length ≤ 51 := by
  rcases h with rfl | h
  · exact Nat.zero_le _
  · exact (Sp.check_parts h).2.1
theorem rnode_calls (m : List Sp.DE) (hm : Sp.GoodM m) (A : Option Addr) (cap : Nat) : ∀ (f : Nat) (d : Sp.Bs) (s : Sp.T) (w : World), 5 ≤ (Sp.parts d).length + f → Sp.Dir d → Sp.Ok s → Sp.sizeT s ≤ 200 → Sp.subs (Sp.toP m) (Sp.parts d) = Sp.entries s → EntsAt w A m → KeysAt w 0 →
    Calls Tryz.prog 149 #[.slice A m.length cap, .string (strOf d)] w fun e w' => ∃ A2 c2 B2 c3, e = .returned (nodeV A2 s.leaf.length c2 B2 s.kids.length c3) ∧ Vers w' A2 s.leaf ∧ Kids w' B2 (Sp.nodeT s).2 ∧ Ext w w'
  | 0, d, s, w, hf, _, _, _, _, _, _ => by have := Sp.parts_len d; omega
  | f + 1, d, s, w, hf, hd, hok, hsz, hsub, hE, K =>
    rnode_step m hm A cap d hd (Nat.le_trans (dir_len hd) (by decide)) s hok hsz hsub (fun i h w2 hE2 K2 => by
      obtain ⟨k1, k2, k3, k4⟩ := Sp.kid_dir hm hd hok hsub i h
      refine rnode_calls m hm A cap f (Sp.down d (s.kids[i]).1) (s.kids[i]).2 w2 ?_ k1 k4 ?_ k3 hE2 K2
      · rw [k2, List.length_append]
        show 5 ≤ (Sp.parts d).length + 1 + f
        omega
      · have h1 := Sp.kid_size s.kids (s.kids[i]).1 (s.kids[i]).2 (Sp.kid_at s.kids i h (ok_rise hok).1)
        have h2 := Sp.sizeT_n0 s
        omega) w hE K
end Go.Proofs.YtmlfnidckfeebaaGreatDoor
namespace Go.Proofs.YtmlfnidckfeebaaGreatDoor
open Go.RowKit
section
variable {P : Program} {ops : Array Oper} {T : World → Prop}
end
namespace Sp
theorem findT_small : ∀ (d : List Bs) (t s : T), findT t d = some s → sizeT s ≤ sizeT t
  | [], t, s, e => by cases e; exact Nat.le_refl _
  | n :: d, t, s, e => by
    rw [findT] at e
    cases hk : kid t.kids n with
    | none => rw [hk] at e; cases e
    | some u =>
      rw [hk] at e
      have h1 := kid_size t.kids n u hk
      have h2 := sizeT_n0 t
      have h3 := findT_small d u s e
      omega
theorem lgo_filter (p : Ver → Bool) : ∀ (l : List Ver) (last last' : Option Int), (∀ x', last' = some x' → ∃ x, last = some x ∧ x' ≤ x) → lgo last l = 0 → lgo last' (l.filter p) = 0
  | [], _, _, _, _ => rfl
  | v :: r, last, last', hw, h => by
    rw [lgo] at h
    by_cases hd : vercheck v = 0
    · rw [if_neg (by simpa using hd)] at h
      by_cases hl : ∃ x, last = some x ∧ v.dot.1 ≤ x
      · rw [if_pos hl] at h; cases h
      · rw [if_neg hl] at h
        by_cases hp : p v = true
        · rw [List.filter_cons_of_pos hp, lgo, if_neg (by simpa using hd), if_neg]
          · exact lgo_filter p r _ _ (fun x' hx => ⟨x', hx, Int.le_refl _⟩) h
          · rintro ⟨x', hx', hle⟩
            obtain ⟨x, hx, hxx⟩ := hw x' hx'
            exact hl ⟨x, hx, by omega⟩
        · rw [List.filter_cons_of_neg hp]
          refine lgo_filter p r _ _ (fun x' hx => ?_) h
          obtain ⟨x, hx, hxx⟩ := hw x' hx
          refine ⟨v.dot.1, rfl, ?_⟩
          rcases Int.lt_or_le x v.dot.1 with h1 | h1
          · omega
          · exact absurd ⟨x, hx, h1⟩ hl
    · rw [if_pos hd] at h; exact absurd h hd
theorem live_leaf {l : List Ver} (h : leaf l = 0) : leaf (live l) = 0 := by
  obtain ⟨h1, h2, h3⟩ := leaf_ok h
  have a1 : ¬ 64 < (live l).length := by
    have := List.length_filter_le (fun v : Ver => !v.dead) l
    unfold live
    omega
  have a2 : lgo none (live l) = 0 := lgo_filter _ l none none (fun x' hx => by cases hx) h2
  have a3 : ((live l).any fun v => covered (live l) v) = false := by
    rw [Bool.eq_false_iff] at h3 ⊢
    intro h4
    apply h3
    rw [List.any_eq_true] at h4 ⊢
    obtain ⟨v, hv, hc⟩ := h4
    refine ⟨v, (List.mem_filter.1 hv).1, ?_⟩
    unfold covered at hc ⊢
    rw [List.any_eq_true] at hc ⊢
    obtain ⟨u, hu, hcu⟩ := hc
    exact ⟨u, (List.mem_filter.1 hu).1, hcu⟩
  unfold leaf
  rw [if_neg a1, if_neg (by simpa using a2), if_neg (by simpa using a3)]
theorem showL_names : ∀ k, List.Sublist ((showL k).map (·.1)) (k.map (·.1))
  | [] => List.Sublist.slnil
  | (n, t) :: r => by
    rw [showL]
    by_cases h : entries (showT t) = []
    · rw [if_pos h]; exact (showL_names r).cons _
    · rw [if_neg h]; exact (showL_names r).cons_cons _
mutual
theorem show_ok : ∀ t, Ok t → Ok (showT t)
  | .mk l k, h => by
    rw [showT]
    refine ⟨fun hne => ?_, List.Pairwise.sublist (showL_names k) h.2.1, show_okL k h.2.2⟩
    by_cases h0 : l = []
    · subst h0; exact absurd rfl hne
    · exact live_leaf (h.1 h0)
theorem show_okL : ∀ k, OkL k → OkL (showL k)
  | [], _ => trivial
  | (n, t) :: r, h => by
    rw [showL]
    by_cases h0 : entries (showT t) = []
    · rw [if_pos h0]; exact show_okL r h.2.2.2
    · rw [if_neg h0]; exact ⟨h.1, h0, show_ok t h.2.2.1, show_okL r h.2.2.2⟩
end
theorem told_eq {o : Option T} {m : List DE} (he : toP m = entriesO o) : told o = m := by
  unfold told
  rw [← he]
  unfold toP
  rw [List.map_map]
  conv => rhs; rw [← List.map_id m]
  refine List.map_congr_left fun e _ => ?_
  show (joinP (split e.1), e.2) = e
  rw [join_split]
theorem told_short {o : Option T} {m : List DE} (he : toP m = entriesO o) (hm : GoodM m) : ∀ x ∈ entriesO o, x.1.length ≤ 60 := fun x hx => by
  rw [← he] at hx
  obtain ⟨e, h1, rfl⟩ := List.mem_map.1 hx
  exact Nat.le_trans (check_parts (hm.1 e h1)).2.2.1 (by decide)
theorem told_leaf {o : Option T} {m : List DE} (he : toP m = entriesO o) (ho : GoodO o) : ∀ e ∈ m, e.2.length ≤ 1000000 := fun e h => by
  have : (split e.1, e.2) ∈ entriesO o := by rw [← he]; exact List.mem_map_of_mem h
  exact (told_fit ho _ this).1
theorem shown_both {o : Option T} {m : List DE} (he : toP m = entriesO o) (ho : GoodO o) (hm : GoodM m) :
    GoodM (shownM m) ∧ Ok (showT (o.getD .nil)) ∧ sizeT (showT (o.getD .nil)) ≤ 128 ∧ toP (shownM m) = entries (showT (o.getD .nil)) := by
  have e1 : toP (shownM m) = entries (showT (o.getD .nil)) := by rw [toP_shown, he, show_entries, entries_getD]
  refine ⟨⟨fun e he2 => ?_, Nat.le_trans (shownM_len m) hm.2⟩, show_ok _ (getD_ok ho.1), ?_, e1⟩
  · unfold shownM at he2
    obtain ⟨y, hy, h2⟩ := List.mem_filterMap.1 he2
    split at h2
    · cases h2
    · cases h2; exact hm.1 y hy
  · rw [sizeT_len, ← e1, toP_len]
    exact Nat.le_trans (shownM_len m) hm.2
end Sp
end Go.Proofs.YtmlfnidckfeebaaGreatDoor
namespace Go.Proofs.YtmlfnidckfeebaaGreatDoor
open Go.RowKit Go.Shelf
attribute [local go_sem] yUpon strOf_toList
set_option maxRecDepth 100000 in
set_option maxHeartbeats 4000000 in
theorem great7_calls (vs : List Sp.Ver) (A : Option Addr) (cap gb : Nat) (w : World) (hx : isBlk w gb 41 #[.slice A vs.length cap]) (h : Vers w A vs) :
    Calls Tryz.prog 102 #[.slice (some ⟨gb, 0, none⟩) 1 1] w fun e w' => ∃ b : Bool, e = .returned (.bool b) ∧ w = w' := by
  have HV := Lib.hid h
  have f0 := (hx.cell 0).trans rfl
  clear h hx
  go_enter Tryz.func102, Tryz.ntmps102
  go_wp2
  go_loopw [3] (fun v3 wr => ∃ k : Nat, k ≤ 1 ∧ v3 = .int .i64 k ∧ w = wr) (fun v3 _ => 1 - (intOf v3).toNat)
  case atStart => exact ⟨0, Nat.zero_le _, rfl, rfl⟩
  case round =>
    obtain ⟨k, hk, rfl, rfl⟩ := hrel
    by_cases hlt : k < 1
    · obtain rfl : k = 0 := by omega
      by_cases h70 : 70 < vs.length
      · have c1 : (70 : Int) < (vs.length : Int) := by omega
        go_wp2
        go_ret
        exact ⟨true, rfl, rfl⟩
      · have c1 : ¬ (70 : Int) < (vs.length : Int) := by omega
        have c2 : vs.length ≤ 70 := by omega
        go_wp2
        go_loopw [4, 5] (fun v4 v5 wr => ∃ (j n : Nat), j ≤ vs.length ∧ n ≤ 400 ∧ v4 = .int .i64 n ∧ v5 = .int .i64 j ∧ w = wr) (fun _ v5 _ => vs.length - (intOf v5).toNat)
        case atStart => exact ⟨0, 0, Nat.zero_le _, Nat.zero_le _, rfl, rfl, rfl⟩
        case round =>
          obtain ⟨j, n, hj, hn, rfl, rfl, rfl⟩ := hrel
          by_cases hjl : j < vs.length
          · obtain ⟨a, o, rfl, hat⟩ := HV.out.at (by omega)
            obtain ⟨A', cap', hv, hp⟩ := hat j hjl
            obtain ⟨x, hxx⟩ : ∃ x, x = vs[j] := ⟨_, rfl⟩
            rw [← hxx] at hv hp
            have g2 := hv.c2
            have g4 := hv.c4
            have hpl := hp.2
            obtain ⟨q, hq⟩ : ∃ q, q = x.past.length := ⟨_, rfl⟩
            rw [← hq] at g2 hpl
            obtain ⟨n2, hn2⟩ : ∃ n2, n2 = n + q := ⟨_, rfl⟩
            have w1 : IntKind.i64.wrap ((n : Int) + (q : Int)) = (n2 : Int) := by rw [IntKind.wrap_i64]; omega
            have b1 : (j : Int) < (vs.length : Int) := by omega
            clear hat hv hp hxx hq hn2
            by_cases h4 : 400 < n2
            · have e1 : (400 : Int) < (n2 : Int) := by omega
              go_wp2
              go_ret
              exact ⟨true, rfl, rfl⟩
            · have e1 : ¬ (400 : Int) < (n2 : Int) := by omega
              have e2 : n2 ≤ 400 := by omega
              by_cases h2 : 200 < (strOf x.data).size
              · have e3 : (200 : Int) < ((strOf x.data).size : Int) := by omega
                go_wp2
                go_ret
                first
                  | exact ⟨true, rfl, rfl⟩
                  | exact .inr rfl
                  | exact .inr ⟨rfl, rfl⟩
                  | (simp; done)
              · have e3 : ¬ (200 : Int) < ((strOf x.data).size : Int) := by omega
                go_wp2
                go_roundw
                case rel => exact ⟨j + 1, n2, by omega, e2, rfl, by go_num, by first | rfl | trivial⟩
                case measure => simp [intOf]; omega
          · obtain rfl : j = vs.length := by omega
            go_wp2
            go_roundw
            case rel => exact ⟨1, Nat.le_refl _, by go_num, by first | rfl | trivial⟩
            case measure => simp [intOf]
    · obtain rfl : k = 1 := by omega
      go_wp2
      go_ret
      exact ⟨false, rfl, rfl⟩
set_option maxRecDepth 100000 in
set_option maxHeartbeats 4000000 in
theorem great15_calls (l : List Sp.DE) (A : Option Addr) (cap most : Nat) (w : World) (h : EntsAt w A l) (hmost : most ≤ 1000) :
    Calls Tryz.prog 37 #[.slice A l.length cap, .int .i64 most] w fun e w' => ∃ b : Bool, e = .returned (.bool b) ∧ (b = false → l.length ≤ most ∧ ∀ e ∈ l, e.1.length ≤ 200) ∧ Ext w w' := by
  have HH := Lib.hid h
  clear h
  go_enter Tryz.func37, Tryz.ntmps37
  by_cases hm : most < l.length
  · have c1 : (most : Int) < (l.length : Int) := by omega
    go_wp2
    go_ret
    exact ⟨true, rfl, (fun h => by cases h), Ext.refl _⟩
  · have c1 : ¬ (most : Int) < (l.length : Int) := by omega
    have c0 : l.length ≤ most := by omega
    have CM := Lib.hid c0
    have cl : l.length ≤ 1000 := by omega
    go_wp2
    go_loopw [5] (fun v5 wr => ∃ k : Nat, k ≤ l.length ∧ v5 = .int .i64 k ∧ (∀ i (h : i < l.length), i < k → (l[i]).1.length ≤ 200) ∧ Ext w wr) (fun v5 _ => l.length - (intOf v5).toNat)
    case atStart => exact ⟨0, Nat.zero_le _, rfl, fun i h h0 => absurd h0 (Nat.not_lt_zero i), Ext.refl _⟩
    case round =>
      obtain ⟨k, hk, rfl, ha, hb⟩ := hrel
      have HA := Lib.hid ha
      have HB := Lib.hid hb
      clear ha
      by_cases hlt : k < l.length
      · obtain ⟨eb, eo, rfl, he⟩ := HH.out.at (by omega)
        obtain ⟨Av, cv, e0, e1, hv⟩ := he k hlt
        have e0' := hb.cell e0
        have e1' := hb.cell e1
        obtain ⟨x, hx⟩ : ∃ x, x = l[k] := ⟨_, rfl⟩
        rw [← hx] at e0' e1' hv
        have HX := Lib.hid hx
        have HV := Lib.hid hv
        have b1 : (k : Int) < (l.length : Int) := by omega
        clear he e0 e1 hx hv hb
        by_cases h2 : 200 < (strOf x.1).size
        · have d1 : (200 : Int) < ((strOf x.1).size : Int) := by omega
          go_wp2
          go_ret
          exact ⟨true, rfl, (fun h => by cases h), HB.out⟩
        · have d1 : ¬ (200 : Int) < ((strOf x.1).size : Int) := by omega
          have P200 := Lib.hid (show x.1.length ≤ 200 by rw [strOf_size] at h2; omega)
          go_wp2_with fail
          have GC := great7_calls x.2 Av cv wr.heap.size (wr.alloc (.cells #[.slice Av x.2.length cv] 41)) (heap_alloc_new _ _) (HV.out.ext (HB.out.trans (Ext.alloc _ _)))
          refine GC.mono ?_
          rintro e w1 ⟨b, rfl, hw1⟩
          have B1 := Lib.hid (show Ext w w1 by rw [← hw1]; exact HB.out.trans (Ext.alloc _ _))
          clear hw1 GC
          cases b with
          | true =>
            go_wp2
            go_ret
            exact ⟨true, rfl, (fun h => by cases h), B1.out⟩
          | false =>
            go_wp2
            refine ⟨⟨k + 1, by omega, by go_num, fun i hi h1 => ?_, B1.out⟩, by simp [intOf]; omega⟩
            by_cases hik : i = k
            · subst hik
              have := P200.out
              rw [HX.out] at this
              exact this
            · exact HA.out i hi (by omega)
      · obtain rfl : k = l.length := by omega
        go_wp2
        go_ret
        exact ⟨false, rfl, fun _ => ⟨CM.out, fun e he => by
          obtain ⟨i, hi, rfl⟩ := List.getElem_of_mem he
          exact HA.out i hi hi⟩, HB.out⟩
theorem dig_guard : Tryz.prog.eqGuardType Tryz.prog.depth 36 = false := by kernel_rfl
namespace Sp
structure Both (o : Option T) (m : List DE) : Prop where
  go : GoodO o
  gm : GoodM m
  eq : toP m = entriesO o
theorem both_of (l : List DE) : Both (ofT none l).1 (rof [] l).1 := ⟨ofT_good l none good_none, rof_good l [] goodM_nil, (of_both l none [] rfl good_none).2⟩
theorem Both.told {o : Option T} {m : List DE} (h : Both o m) : Sp.told o = m := told_eq h.eq
theorem Both.short {o : Option T} {m : List DE} (h : Both o m) : ∀ x ∈ entriesO o, x.1.length ≤ 60 := told_short h.eq h.gm
end Sp
end Go.Proofs.YtmlfnidckfeebaaGreatDoor
namespace Go.Proofs.YtmlfnidckfeebaaGreatDoor
open Go.RowKit Go.Shelf
namespace Sp
mutual
theorem entries_leaf : ∀ (t : T), ∀ e ∈ entries t, e.2 ≠ []
  | .mk leaf k, e, h => by
    rw [entries] at h
    rcases List.mem_append.1 h with h | h
    · by_cases hl : leaf = []
      · rw [if_pos hl] at h; cases h
      · rw [if_neg hl] at h
        obtain rfl := List.mem_singleton.1 h
        exact hl
    · exact entriesL_leaf k e h
theorem entriesL_leaf : ∀ (k : List (Bs × T)), ∀ e ∈ entriesL k, e.2 ≠ []
  | [], e, h => by rw [entriesL] at h; cases h
  | (n, t) :: r, e, h => by
    rw [entriesL] at h
    rcases List.mem_append.1 h with h | h
    · obtain ⟨x, hx, rfl⟩ := List.mem_map.1 h
      exact entries_leaf t x hx
    · exact entriesL_leaf r e h
end
theorem Both.rise {o : Option T} {m : List DE} (h : Both o m) : RiseE (toP m) := by rw [h.eq]; exact riseO h.go.1
theorem Both.full {o : Option T} {m : List DE} (h : Both o m) : ∀ e ∈ m, e.2 ≠ [] := fun e he => by
  have h1 : (split e.1, e.2) ∈ entriesO o := by rw [← h.eq]; exact List.mem_map.2 ⟨e, he, rfl⟩
  cases o with
  | none => cases h1
  | some t => exact entries_leaf t _ h1
theorem under_parts {p d : Bs} (h : under p d = true) : parts p ≠ [] ∧ (d = [] ∨ parts d ≠ []) ∧ (parts d).length < (parts p).length ∧ (parts p).take (parts d).length = parts d := by
  unfold under at h
  simpa [and_assoc] using h
theorem under_of {p d : Bs} (h : parts p ≠ [] ∧ (d = [] ∨ parts d ≠ []) ∧ (parts d).length < (parts p).length ∧ (parts p).take (parts d).length = parts d) : under p d = true := by
  unfold under
  simpa [and_assoc] using h
theorem cmpP_app : ∀ (D a b : List Bs), cmpP (D ++ a) (D ++ b) = cmpP a b
  | [], _, _ => rfl
  | x :: D, a, b => by
    rw [List.cons_append, List.cons_append, cmpP, if_pos rfl]
    exact cmpP_app D a b
theorem split_at {α : Type} (l : List α) (n : Nat) (d : α) (h : n < l.length) : l = l.take n ++ l.getD n d :: l.drop (n + 1) := by
  rw [List.getD_eq_getElem?_getD, List.getElem?_eq_getElem h, Option.getD_some, List.getElem_cons_drop, List.take_append_drop]
end Sp
end Go.Proofs.YtmlfnidckfeebaaGreatDoor
namespace Go.Proofs.YtmlfnidckfeebaaGreatDoor
open Go.RowKit Go.Shelf
attribute [local go_sem] yUpon strOf_toList
theorem dig_eqv (x y : Sp.Bs) (h : x.length = 32) (h' : y.length = 32) (w : World) : (Op.equalIn 10000 36 (.agg (digC x)) (.agg (digC y))).run Tryz.prog w = .ok (x == y) w :=
  run_equalIn_bytes (P := Tryz.prog) w 9998 36 5 32 Tryz.underlying36 Tryz.underlying5 (fun w => Tryz.sizeOf5 w) x y h h'
namespace Sp
def diffS (oa ob : Option T) (d : Bs) : Bool := match findS (oa.getD .nil) d, findS (ob.getD .nil) d with
  | some s, some t => decide (nsum (nodeT s) ≠ nsum (nodeT t))
  | none, none => false
  | _, _ => true
end Sp
set_option maxRecDepth 100000 in
theorem ddown_calls (d n : Sp.Bs) (w : World) (hdl : d.length ≤ 1000) (hnl : n.length ≤ 1000) : Calls Tryz.prog 215 #[.string (strOf d), .string (strOf n)] w fun e w' => e = .returned (.string (strOf (Sp.down d n))) ∧ w = w' := by
  go_enter Tryz.func215, Tryz.ntmps215
  by_cases hd : d = []
  · subst hd
    have c1 : (([] : List UInt8).isEmpty) = true := rfl
    go_wp2
    go_ret
    exact ⟨by rw [Sp.down, if_pos rfl]; rfl, rfl⟩
  · have c5 : d.isEmpty = false := by cases d with | nil => exact absurd rfl hd | cons _ _ => rfl
    have c6 : (d == []) = false := by rw [beq_eq_false_iff_ne]; exact hd
    have z1 : ¬ 9223372036854775807 < (strOf d).size + 1 := by rw [strOf_size]; omega
    have z2 : ¬ 9223372036854775807 < (strOf d).size + 1 + (strOf n).size := by rw [strOf_size, strOf_size]; omega
    go_wp2
    go_ret
    have e : strOf d ++ ⟨#[47]⟩ ++ strOf n = strOf (Sp.down d n) := by
      rw [Sp.down, if_neg hd]
      apply ByteArray.ext
      simp [strOf]
    exact ⟨congrArg (fun s => Ending.returned (.string s)) e, rfl⟩
namespace Sp
def put18 (s : Bs) : Bool → List Bs → List Bs
  | b, [] => if b then [] else [s]
  | b, x :: r => ((if b = false ∧ compare s x ≤ 0 then [s] else []) ++ (if x = s then [] else [x])) ++ put18 s (b || decide (compare s x ≤ 0)) r
theorem put18_len (s : Bs) : ∀ (l : List Bs) (b : Bool), (put18 s b l).length ≤ l.length + 1
  | [], b => by rw [put18]; split <;> simp
  | x :: r, b => by
    have key : ∀ (l : List Bs) (b : Bool), (put18 s b l).length ≤ l.length + if b then 0 else 1 := by
      intro l
      induction l with
      | nil => intro b; rw [put18]; cases b <;> simp
      | cons y q ih =>
        intro b
        have h1 : (if y = s then ([] : List Bs) else [y]).length ≤ 1 := by split <;> simp
        rw [put18, List.length_append, List.length_append]
        cases b with
        | true =>
          have := ih true
          rw [if_neg (by simp)]
          simp only [Bool.true_or, List.length_nil, List.length_cons, if_true] at this ⊢
          omega
        | false =>
          by_cases h : compare s y ≤ 0
          · have := ih true
            rw [if_pos ⟨rfl, h⟩]
            simp only [h, decide_true, Bool.false_or, List.length_nil, List.length_cons, if_true] at this ⊢
            simp
            omega
          · have := ih false
            rw [if_neg (fun hh => h hh.2)]
            simp only [h, decide_false, Bool.false_or, List.length_nil, List.length_cons] at this ⊢
            simp at this ⊢
            omega
    have := key (x :: r) b
    split at this <;> omega
theorem put18_mem (s : Bs) : ∀ (l : List Bs) (b : Bool) (x : Bs), x ∈ put18 s b l → x = s ∨ x ∈ l
  | [], b, x, h => by
    rw [put18] at h
    split at h
    · cases h
    · exact .inl (List.mem_singleton.1 h)
  | y :: r, b, x, h => by
    rw [put18] at h
    rcases List.mem_append.1 h with h | h
    · rcases List.mem_append.1 h with h | h
      · split at h
        · exact .inl (List.mem_singleton.1 h)
        · cases h
      · split at h
        · cases h
        · exact .inr (List.mem_cons.2 (.inl (List.mem_singleton.1 h)))
    · rcases put18_mem s r _ x h with h | h
      · exact .inl h
      · exact .inr (List.mem_cons_of_mem _ h)
def belowS (d : Bs) (l : List DE) : List Bs := l.foldl (fun out e => if under e.1 d = true then put18 ((parts e.1).getD (parts d).length []) false out else out) []
theorem belowS_take (d : Bs) (l : List DE) (k : Nat) (h : k < l.length) : belowS d (l.take (k + 1)) = if under l[k].1 d = true then put18 ((parts l[k].1).getD (parts d).length []) false (belowS d (l.take k)) else belowS d (l.take k) := by
  unfold belowS
  rw [List.take_succ_eq_append_getElem h, List.foldl_append]
  rfl
theorem belowS_len (d : Bs) (l : List DE) : ∀ k, k ≤ l.length → (belowS d (l.take k)).length ≤ k
  | 0, _ => by rw [List.take_zero]; exact Nat.le_refl _
  | k + 1, h => by
    have ih := belowS_len d l k (by omega)
    rw [belowS_take d l k (by omega)]
    split
    · have := put18_len ((parts (l[k]'(by omega)).1).getD (parts d).length []) (belowS d (l.take k)) false
      omega
    · omega
end Sp
end Go.Proofs.YtmlfnidckfeebaaGreatDoor
namespace Go.Proofs.YtmlfnidckfeebaaGreatDoor
open Go.RowKit
section
variable {P : Program} {ops : Array Oper} {rest : List Oper} {o : Oper} {a : Act} {Q : Exit → Act → World → Prop} {w : World}
theorem app_where {t e : TypeId} {size bytes : Nat} (hst : AppStat P t e size bytes) (hgd : o.guard = none) (s x : Operand) (ho : o.op = .call { callee := .builtin .append, args := #[s, x], argTypes := #[t, t] })
    (base : Nat) (v : Value) (n : Nat) (xs : List Value) (hs : a.eval s = v) (hown : w.ownsRow base e size v n xs) (gx ox m c : Nat) (news : List Value)
    (hx : a.eval x = .slice (some ⟨gx, ox, none⟩) m c) (hm : 0 < m) (hl : news.length = m * size) (hX : ∀ j u, news[j]? = some u → w.cell? ⟨gx, ox + j, none⟩ = some u) (h1 : ∀ u ∈ news, u.oneCell' = true) (hcap : (n + m) * bytes ≤ 140737488355328) (hbase : base ≤ w.heap.size)
    (h : ∀ v' w', w'.ownsRow base e size v' (n + m) (xs ++ news) → w.grownBy w' v.ownBlock → Below base w w' → (v'.ownBlock = v.ownBlock ∨ ∃ k, w.heap.size ≤ k ∧ v'.ownBlock = some k) → wpList P ops Q rest (a.put o.dst v') w') : wpList P ops Q (o :: rest) a w := by
  obtain ⟨ht, hz0, hb0, i, z, hi, hz, hsz, hby, hzs⟩ := hst
  have hmax : n + m ≤ maxLen := by
    have : n + m ≤ (n + m) * bytes := Nat.le_mul_of_pos_right _ hb0
    unfold maxLen; omega
  have hX' : ∀ j u, news[j]? = some u → w.cell? ((⟨gx, ox, none⟩ : Addr).add j) = some u := fun j u hj => by
    have := hX j u hj
    cases j <;> simpa [Addr.add] using this
  obtain ⟨v', w', hrun, hown', hg, _⟩ := run_append_own w base t o.type e i z size bytes ht hi hz hsz hby hzs hz0 v n xs hown ⟨gx, ox, none⟩ m c news hl hX' h1 hmax hcap hbase
  have hm2 : n + m ≤ 9223372036854775807 := by unfold maxLen at hmax; omega
  have hw : v'.ownBlock = v.ownBlock ∨ ∃ k, w.heap.size ≤ k ∧ v'.ownBlock = some k := by
    rcases hown.2 with ⟨rfl, rfl⟩ | ⟨g, cap, cur, rfl, _, hgg, hnc, _, hcs, _⟩
    · rw [Nat.zero_add] at hcap
      have hr := run_append_nil (P := P) w t o.type e i z ht hi hz ⟨gx, ox, none⟩ m c news (by rw [hsz]; exact hl) hX' hm (by omega) (by rw [hby]; omega)
      rw [hr] at hrun
      cases hrun
      exact .inr ⟨_, Nat.le_refl _, rfl⟩
    · by_cases hroom : n + m ≤ cap
      · have hr := run_append_room (P := P) w t o.type e i ht hi g n cap cur hgg ⟨gx, ox, none⟩ m c news (by rw [hsz]; exact hl) hX' h1 hroom (by rw [hl, hcs, hsz, ← Nat.add_mul]; exact Nat.mul_le_mul_right _ hroom)
        rw [hr] at hrun
        cases hrun
        exact .inl rfl
      · have hr := run_append_grow (P := P) w t o.type e i z ht hi hz ⟨g, 0, none⟩ n cap xs (by rw [hsz]; exact hown.1) (hown.cells (g := g) rfl) ⟨gx, ox, none⟩ m c news (by rw [hsz]; exact hl) hX' (by omega) (by omega) (by rw [hby]; exact growslice_fits (by omega) hcap)
        rw [hr] at hrun
        cases hrun
        exact .inr ⟨_, Nat.le_refl _, rfl⟩
  refine Lib.wpList_append_run w hgd s x t t ho v _ hs hx v' w' hrun (h v' w' hown' hg ((Below.refl _ _).grown hg hbase fun k hk => ?_) hw)
  exact (hown.lt k hk).1
end
end Go.Proofs.YtmlfnidckfeebaaGreatDoor
namespace Go.Proofs.YtmlfnidckfeebaaGreatDoor
open Go.RowKit Go.Shelf
attribute [local go_sem] yUpon strOf_toList
section
variable {P : Program} {ops : Array Oper} {rest : List Oper} {o : Oper} {a : Act} {Q : Exit → Act → World → Prop} {w : World}
end
namespace Sp
def openS (oa ob : Option T) (l : List DE) : Nat → Bs → List Bs
  | 0, _ => []
  | f + 1, d => if diffS oa ob d = true then d :: (belowS d l).flatMap fun n => openS oa ob l f (down d n) else []
theorem openS_len (oa ob : Option T) (l : List DE) (hl : l.length ≤ 256) : ∀ f d, (openS oa ob l f d).length ≤ 257 ^ f
  | 0, d => Nat.zero_le _
  | f + 1, d => by
    rw [openS]
    have hb : (belowS d l).length ≤ 256 := by
      have := belowS_len d l l.length (Nat.le_refl _)
      rw [List.take_length] at this
      omega
    have key : ∀ L : List Bs, (L.flatMap fun n => openS oa ob l f (down d n)).length ≤ L.length * 257 ^ f := by
      intro L
      induction L with
      | nil => exact Nat.zero_le _
      | cons x r ih =>
        have := openS_len oa ob l hl f (down d x)
        rw [List.flatMap_cons, List.length_append, List.length_cons, Nat.succ_mul]
        omega
    split
    · have h1 := key (belowS d l)
      have h2 : (belowS d l).length * 257 ^ f ≤ 256 * 257 ^ f := Nat.mul_le_mul_right _ hb
      have h3 : 1 ≤ 257 ^ f := Nat.one_le_pow _ _ (by decide)
      rw [List.length_cons, Nat.pow_succ]
      omega
    · exact Nat.zero_le _
theorem belowS_mem (d : Bs) : ∀ (l : List DE) (out : List Bs) (x : Bs), x ∈ l.foldl (fun out e => if under e.1 d = true then put18 ((parts e.1).getD (parts d).length []) false out else out) out → x ∈ out ∨ ∃ e ∈ l, under e.1 d = true ∧ (parts e.1).getD (parts d).length [] = x
  | [], out, x, h => .inl h
  | e :: r, out, x, h => by
    rw [List.foldl_cons] at h
    rcases belowS_mem d r _ x h with h | ⟨y, hy, h1, h2⟩
    · by_cases hu : under e.1 d = true
      · rw [if_pos hu] at h
        rcases put18_mem _ out false x h with rfl | h
        · exact .inr ⟨e, List.mem_cons_self .., hu, rfl⟩
        · exact .inl h
      · rw [if_neg hu] at h
        exact .inl h
    · exact .inr ⟨y, List.mem_cons_of_mem _ hy, h1, h2⟩
theorem below_down {l : List DE} (hm : ∀ e ∈ l, check e.1 = 0) {d : Bs} (hd : Dir d) {s : Bs} (hs : s ∈ belowS d l) : Dir (down d s) ∧ parts (down d s) = parts d ++ [s] ∧ (parts d).length + 1 ≤ 4 ∧ s.length ≤ 12 := by
  rcases belowS_mem d l [] s hs with h | ⟨e, he, hu, hg⟩
  · cases h
  · have eu' := under_parts hu
    have hc := check_parts (hm e he)
    have hsp : split e.1 = (parts d ++ [s]) ++ (parts e.1).drop ((parts d).length + 1) := by
      rw [← hc.1]
      have := split_at (parts e.1) _ [] eu'.2.2.1
      rw [eu'.2.2.2, hg] at this
      rw [List.append_assoc]
      exact this
    have hp := check_prefix (hm e he) hsp (by simp)
    rw [← down_is hd s] at hp
    refine ⟨.inr hp.1, hp.2, by have := eu'.2.2.1; rw [hc.1] at this; omega, ?_⟩
    rw [← hg, List.getD_eq_getElem?_getD, List.getElem?_eq_getElem eu'.2.2.1, Option.getD_some]
    have h4 := hc.2.2.2
    rw [← hc.1] at h4
    exact name_len (List.all_eq_true.1 h4 _ (List.getElem_mem _))
theorem rget_mem : ∀ (m : List DE) (d : Bs), rget m d = [] ∨ ∃ e ∈ m, rget m d = e.2
  | [], d => .inl rfl
  | e :: r, d => by
    by_cases h : e.1 = d
    · exact .inr ⟨e, List.mem_cons_self .., by rw [rget, if_pos h]⟩
    · rcases rget_mem r d with h2 | ⟨x, hx, h2⟩
      · exact .inl (by rw [rget, if_neg h, h2])
      · exact .inr ⟨x, List.mem_cons_of_mem _ hx, by rw [rget, if_neg h, h2]⟩
theorem filter_take {α : Type} (p : α → Bool) (l : List α) (k : Nat) (h : k < l.length) : (l.take (k + 1)).filter p = (l.take k).filter p ++ if p l[k] = true then [l[k]] else [] := by
  rw [List.take_succ_eq_append_getElem h, List.filter_append]
  congr 1
  cases hp : p l[k] <;> simp [hp]
end Sp
end Go.Proofs.YtmlfnidckfeebaaGreatDoor
namespace Go.Proofs.YtmlfnidckfeebaaGreatDoor
open Go.RowKit Go.Shelf
section
variable {P : Program} {ops : Array Oper}
theorem list_build {rest : List Oper} {o : Oper} {a : Act} {w : World} {Q : Exit → Act → World → Prop} (hg : o.guard = none) (t : TypeId) (parts : Array (Nat × Operand)) (ho : o.op = .build t parts) (cells : Array Value)
    (hb : P.built t (parts.map fun (i, x) => (i, a.eval x)).toList = some cells) (h : wpList P ops Q rest (a.put o.dst (.agg cells)) w) : wpList P ops Q (o :: rest) a w :=
  wpList_plain hg fun K hK => by
    unfold Oper.wp execOp
    simp only [ho, Sem.run_bind, run_build w t _ cells hb, Result.andThen_ok, Sem.run_pure]
    exact hK _ _ h
theorem at_build {rest : List Oper} {o : Oper} {a : Act} {w : World} {Q : Exit → Act → World → Prop} {t : TypeId} {ps : Array (Nat × Operand)} (_ho : o.op = .build t ps) (h : wpList P ops Q (o :: rest) a w) : wpList P ops Q (o :: rest) a w := h
end
section
variable {P : Program} {ops : Array Oper} {T : World → Prop}
theorem floatT_load_mid {a : Act} {o : Oper} {K : Act → Prop} (hw : Region.wanted o (yielded ops a.tmps) = true) (ty : TypeId) (x : Operand) (ho : o.op = .load ty x) (b off : Nat) (hx : a.eval x = .pointer (some ⟨b, off, none⟩)) (vs : List Value) (d : TypeDesc)
    (hc : ∀ W, T W → W.rangeAt b off vs) (hu : P.underlying ty = some d) (hd : d.isRow = true) (hi : (P.info? ty).map (·.size) = some vs.length) (h : K (a.put o.dst (.agg vs.toArray))) : ∃ v, YieldsT P ops T o v a ∧ K (a.put o.dst v) := by
  refine ⟨_, .inl ⟨hw, fun W hS => ?_⟩, h⟩
  unfold execOp
  simp only [ho, hx, Sem.run_bind, run_loadAt_mid W b off ty vs d (hc W hS) hu hd hi, Result.andThen_ok, Sem.run_pure]
end
end Go.Proofs.YtmlfnidckfeebaaGreatDoor
namespace Go.Proofs.YtmlfnidckfeebaaGreatDoor
open Go.RowKit Go.Shelf
attribute [local go_sem] yUpon strOf_toList
theorem fillv_step (place : Nat → Option (Nat × Nat)) (z : Array Value) (i : Nat) (v : Value) (r : List (Nat × Value)) (o : Nat) (hp : place i = some (o, v.cells.size)) (hz : o + v.cells.size ≤ z.size) :
    Instr.fill place z ((i, v) :: r) = Instr.fill place (putsA z o v.cells.toList) r := by
  conv => lhs; unfold Instr.fill
  rw [hp]
  simp only
  rw [if_neg (by simp; omega), fold_putsA']
theorem putsA_midv (a b b' c : List Value) (o : Nat) (ho : o = a.length) (h : b'.length = b.length) : putsA (a ++ b ++ c).toArray o b' = (a ++ b' ++ c).toArray := by
  subst ho
  apply Array.ext_getElem?
  intro m
  rw [putsA_get _ _ _ _ (by simp; omega)]
  simp only [List.getElem?_toArray]
  by_cases h1 : m < a.length
  · rw [if_neg (by omega), List.append_assoc, List.append_assoc, List.getElem?_append_left h1, List.getElem?_append_left h1]
  · by_cases h2 : m < a.length + b'.length
    · rw [if_pos ⟨by omega, h2⟩, List.append_assoc, List.getElem?_append_right (by omega), List.getElem?_append_left (by omega)]
    · rw [if_neg (by omega), List.getElem?_append_right (by simp; omega), List.getElem?_append_right (by simp; omega)]
      simp [h]
namespace Sp
abbrev Two := Bs × Bool × Bool × Bs × Bs
abbrev z32 : Bs := List.replicate 32 0
def kids2 : List Kid → List Kid → List Two
  | [], [] => []
  | x :: r, [] => (x.1, true, false, x.2, z32) :: kids2 r []
  | [], y :: s => (y.1, false, true, z32, y.2) :: kids2 [] s
  | x :: r, y :: s =>
    if Op.bytesLess x.1 y.1 = true then (x.1, true, false, x.2, z32) :: kids2 r (y :: s)
    else if Op.bytesLess y.1 x.1 = true then (y.1, false, true, z32, y.2) :: kids2 (x :: r) s
    else (x.1, true, true, x.2, y.2) :: kids2 r s
termination_by x y => x.length + y.length
def differ2 (k : Two) : Bool := !k.2.1 || (!k.2.2.1 || k.2.2.2.1 != k.2.2.2.2)
end Sp
def twoL (k : Sp.Two) : List Value := ([.string (strOf k.1)] ++ [.bool k.2.1] ++ [.bool k.2.2.1]) ++ (k.2.2.2.1.map byteV ++ k.2.2.2.2.map byteV)
def twosC : List Sp.Two → List Value
  | [] => []
  | k :: r => twoL k ++ twosC r
def TwoOk (k : Sp.Two) : Prop := k.2.2.2.1.length = 32 ∧ k.2.2.2.2.length = 32 ∧ k.1.length ≤ 1000000
def TwosOk (l : List Sp.Two) : Prop := ∀ k ∈ l, TwoOk k
theorem twoL_len (k : Sp.Two) (h : TwoOk k) : (twoL k).length = 67 := by simp [twoL, h.1, h.2.1]
theorem twosC_len : ∀ (l : List Sp.Two), TwosOk l → (twosC l).length = l.length * 67
  | [], _ => rfl
  | x :: r, h => by
    rw [twosC, List.length_append, twoL_len x (h x (List.mem_cons_self ..)), twosC_len r (fun y hy => h y (List.mem_cons_of_mem _ hy)), List.length_cons]
    omega
theorem twosC_append (l m : List Sp.Two) : twosC (l ++ m) = twosC l ++ twosC m := by
  induction l with
  | nil => rfl
  | cons x r ih => rw [List.cons_append, twosC, ih, twosC, List.append_assoc]
theorem twosC_get : ∀ (l : List Sp.Two) (k : Nat) (hk : k < l.length), TwosOk l → ∀ (j : Nat) (v : Value), (twoL l[k])[j]? = some v → (twosC l)[k * 67 + j]? = some v
  | x :: r, 0, _, h, j, v, hv => by
    rw [twosC, Nat.zero_mul, Nat.zero_add, List.getElem?_append_left]
    · exact hv
    · exact (List.getElem?_eq_some_iff.1 hv).1
  | x :: r, k + 1, hk, h, j, v, hv => by
    have e := twoL_len x (h x (List.mem_cons_self ..))
    rw [twosC, List.getElem?_append_right (by omega), e, show (k + 1) * 67 + j - 67 = k * 67 + j by omega]
    exact twosC_get r k (by simpa using hk) (fun y hy => h y (List.mem_cons_of_mem _ hy)) j v hv
theorem two_at {w : World} {A : Option Addr} {l : List Sp.Two} (h : Cells w A (twosC l)) (ok : TwosOk l) (hn : 0 < l.length) : ∃ g o, A = some ⟨g, o, none⟩ ∧ ∀ k (hk : k < l.length), w.rangeAt g (o + k * 67) (twoL l[k]) := by
  obtain ⟨g, o, hA, hc⟩ := h (by intro e; have := twosC_len l ok; rw [e] at this; simp at this; omega)
  exact ⟨g, o, hA, fun k hk j v hj => by rw [Nat.add_assoc]; exact hc _ _ (twosC_get l k hk ok j v hj)⟩
theorem twoL_one (k : Sp.Two) : ∀ u ∈ (twoL k).toArray.toList, u.oneCell' = true := by
  intro u hu
  rw [show (twoL k).toArray.toList = twoL k from rfl, twoL] at hu
  rcases List.mem_append.1 hu with h | h
  · simp at h; rcases h with rfl | rfl | rfl <;> rfl
  · rcases List.mem_append.1 h with h | h
    · obtain ⟨b, _, rfl⟩ := List.mem_map.1 h; rfl
    · obtain ⟨b, _, rfl⟩ := List.mem_map.1 h; rfl
theorem appTwo : AppStat Tryz.prog 260 263 67 88 := by
  refine ⟨Tryz.underlying260, by decide, by decide, ?_⟩
  obtain ⟨i0, hi, hz0, hz1, hz2⟩ := info_parts (show (Tryz.prog.info? 263).map (fun i => (i.zero, i.size, i.bytes)) = some (some (.agg ((([Value.string ⟨#[]⟩] ++ [Value.bool false] ++ [Value.bool false]) ++ (List.replicate 64 (Value.int .u8 0)) : List Value).toArray)), 67, 88) by kernel_rfl)
  exact ⟨i0, _, hi, hz0, hz1, hz2, by kernel_rfl⟩
def pl2 : Nat → Option (Nat × Nat) := fun i => (#[(0, 1), (1, 1), (2, 1), (3, 32), (35, 32)] : Array (Nat × Nat))[i]?
theorem fill2_0 (k : Sp.Two) (s : Sp.Bs) (h : TwoOk k) (r : List (Nat × Value)) : Instr.fill pl2 (twoL k).toArray ((0, .string (strOf s)) :: r) = Instr.fill pl2 (twoL (s, k.2)).toArray r := by
  have hl := twoL_len k h
  rw [fillv_step pl2 _ 0 _ r 0 rfl (by simp [show (Value.string (strOf s)).cells = #[.string (strOf s)] from rfl, hl])]
  congr 1
theorem fill2_1 (k : Sp.Two) (b : Bool) (h : TwoOk k) (r : List (Nat × Value)) : Instr.fill pl2 (twoL k).toArray ((1, .bool b) :: r) = Instr.fill pl2 (twoL (k.1, b, k.2.2)).toArray r := by
  have hl := twoL_len k h
  rw [fillv_step pl2 _ 1 _ r 1 rfl (by simp [show (Value.bool b).cells = #[.bool b] from rfl, hl])]
  congr 1
theorem fill2_2 (k : Sp.Two) (b : Bool) (h : TwoOk k) (r : List (Nat × Value)) : Instr.fill pl2 (twoL k).toArray ((2, .bool b) :: r) = Instr.fill pl2 (twoL (k.1, k.2.1, b, k.2.2.2)).toArray r := by
  have hl := twoL_len k h
  rw [fillv_step pl2 _ 2 _ r 2 rfl (by simp [show (Value.bool b).cells = #[.bool b] from rfl, hl])]
  congr 1
theorem fill2_3 (k : Sp.Two) (d : Sp.Bs) (hd : d.length = 32) (h : TwoOk k) (r : List (Nat × Value)) : Instr.fill pl2 (twoL k).toArray ((3, digV d) :: r) = Instr.fill pl2 (twoL (k.1, k.2.1, k.2.2.1, d, k.2.2.2.2)).toArray r := by
  have hl := twoL_len k h
  have hc : (digV d).cells = (d.map byteV).toArray := rfl
  have hs : (digV d).cells.size = 32 := by rw [hc]; simp [hd]
  rw [fillv_step pl2 _ 3 _ r 3 (by rw [hs]; rfl) (by rw [hs, List.size_toArray, hl]; decide), hc]
  congr 1
  have := putsA_midv ([.string (strOf k.1)] ++ [.bool k.2.1] ++ [.bool k.2.2.1]) (k.2.2.2.1.map byteV) (d.map byteV) (k.2.2.2.2.map byteV) 3 rfl (by simp [hd, h.1])
  simp only [twoL]
  rw [← List.append_assoc, this, ← List.append_assoc]
theorem fill2_4 (k : Sp.Two) (d : Sp.Bs) (hd : d.length = 32) (h : TwoOk k) (r : List (Nat × Value)) : Instr.fill pl2 (twoL k).toArray ((4, digV d) :: r) = Instr.fill pl2 (twoL (k.1, k.2.1, k.2.2.1, k.2.2.2.1, d)).toArray r := by
  have hl := twoL_len k h
  have hc : (digV d).cells = (d.map byteV).toArray := rfl
  have hs : (digV d).cells.size = 32 := by rw [hc]; simp [hd]
  rw [fillv_step pl2 _ 4 _ r 35 (by rw [hs]; rfl) (by rw [hs, List.size_toArray, hl]; decide), hc]
  congr 1
  have := putsA_midv (([.string (strOf k.1)] ++ [.bool k.2.1] ++ [.bool k.2.2.1]) ++ k.2.2.2.1.map byteV) (k.2.2.2.2.map byteV) (d.map byteV) [] 35 (by simp [h.1]) (by simp [hd, h.2.1])
  simp only [List.append_nil] at this
  simp only [twoL]
  rw [← List.append_assoc, this, ← List.append_assoc]
theorem built_two (parts : List (Nat × Value)) (h : (Tryz.prog).built 263 parts = Instr.fill pl2 (([Value.string ⟨#[]⟩] ++ [Value.bool false] ++ [Value.bool false]) ++ (List.replicate 64 (Value.int .u8 0)) : List Value).toArray parts) :
    (Tryz.prog).built 263 parts = Instr.fill pl2 (twoL (([] : Sp.Bs), false, false, Sp.z32, Sp.z32)).toArray parts := by
  rw [h]; rfl
theorem z32_len : Sp.z32.length = 32 := rfl
theorem two0_ok : TwoOk (([] : Sp.Bs), false, false, Sp.z32, Sp.z32) := ⟨by decide, by decide, by decide⟩
theorem built_x (k : Sp.Kid) (h : k.2.length = 32) (hn : k.1.length ≤ 1000000) : (Tryz.prog).built 263 [(0, .string (strOf k.1)), (1, .bool true), (3, digV k.2)] = some (twoL (k.1, true, false, k.2, Sp.z32)).toArray := by
  rw [built_two _ (by kernel_rfl), fill2_0 _ _ two0_ok, fill2_1 _ _ ⟨z32_len, z32_len, hn⟩, fill2_3 _ _ h ⟨z32_len, z32_len, hn⟩]
  rfl
theorem built_y (k : Sp.Kid) (h : k.2.length = 32) (hn : k.1.length ≤ 1000000) : (Tryz.prog).built 263 [(0, .string (strOf k.1)), (2, .bool true), (4, digV k.2)] = some (twoL (k.1, false, true, Sp.z32, k.2)).toArray := by
  rw [built_two _ (by kernel_rfl), fill2_0 _ _ two0_ok, fill2_2 _ _ ⟨z32_len, z32_len, hn⟩, fill2_4 _ _ h ⟨z32_len, z32_len, hn⟩]
  rfl
theorem built_xy (s x y : Sp.Bs) (h : x.length = 32) (h' : y.length = 32) (hn : s.length ≤ 1000000) : (Tryz.prog).built 263 [(0, .string (strOf s)), (1, .bool true), (2, .bool true), (3, digV x), (4, digV y)] = some (twoL (s, true, true, x, y)).toArray := by
  rw [built_two _ (by kernel_rfl), fill2_0 _ _ two0_ok, fill2_1 _ _ ⟨z32_len, z32_len, hn⟩, fill2_2 _ _ ⟨z32_len, z32_len, hn⟩, fill2_3 _ _ h ⟨z32_len, z32_len, hn⟩, fill2_4 _ _ h' ⟨h, z32_len, hn⟩]
  rfl
theorem kids2_ok : ∀ (x y : List Sp.Kid), KidsOk x → KidsOk y → TwosOk (Sp.kids2 x y) ∧ (Sp.kids2 x y).length ≤ x.length + y.length
  | [], [], _, _ => ⟨by rw [Sp.kids2]; intro k h; (cases h), by rw [Sp.kids2]; exact Nat.le_refl _⟩
  | x :: r, [], hx, hy => by
    obtain ⟨h1, h2⟩ := kids2_ok r [] (fun k h => hx k (List.mem_cons_of_mem _ h)) hy
    have h3 := hx x (List.mem_cons_self ..)
    rw [Sp.kids2]
    refine ⟨fun k h => ?_, by simp at h2 ⊢; omega⟩
    rcases List.mem_cons.1 h with rfl | h
    · exact ⟨h3.1, z32_len, h3.2⟩
    · exact h1 k h
  | [], y :: s, hx, hy => by
    obtain ⟨h1, h2⟩ := kids2_ok [] s hx (fun k h => hy k (List.mem_cons_of_mem _ h))
    have h3 := hy y (List.mem_cons_self ..)
    rw [Sp.kids2]
    refine ⟨fun k h => ?_, by simp at h2 ⊢; omega⟩
    rcases List.mem_cons.1 h with rfl | h
    · exact ⟨z32_len, h3.1, h3.2⟩
    · exact h1 k h
  | x :: r, y :: s, hx, hy => by
    have h3 := hx x (List.mem_cons_self ..)
    have h4 := hy y (List.mem_cons_self ..)
    rw [Sp.kids2]
    split
    · obtain ⟨h1, h2⟩ := kids2_ok r (y :: s) (fun k h => hx k (List.mem_cons_of_mem _ h)) hy
      refine ⟨fun k h => ?_, by simp at h2 ⊢; omega⟩
      rcases List.mem_cons.1 h with rfl | h
      · exact ⟨h3.1, z32_len, h3.2⟩
      · exact h1 k h
    · split
      · obtain ⟨h1, h2⟩ := kids2_ok (x :: r) s hx (fun k h => hy k (List.mem_cons_of_mem _ h))
        refine ⟨fun k h => ?_, by simp at h2 ⊢; omega⟩
        rcases List.mem_cons.1 h with rfl | h
        · exact ⟨z32_len, h4.1, h4.2⟩
        · exact h1 k h
      · obtain ⟨h1, h2⟩ := kids2_ok r s (fun k h => hx k (List.mem_cons_of_mem _ h)) (fun k h => hy k (List.mem_cons_of_mem _ h))
        refine ⟨fun k h => ?_, by simp at h2 ⊢; omega⟩
        rcases List.mem_cons.1 h with rfl | h
        · exact ⟨h3.1, h4.1, h3.2⟩
        · exact h1 k h
termination_by x y => x.length + y.length
end Go.Proofs.YtmlfnidckfeebaaGreatDoor
namespace Go.Proofs.YtmlfnidckfeebaaGreatDoor
open Go.RowKit
namespace Sp
abbrev RiseN (l : List Bs) : Prop := l.Pairwise fun x y => Op.bytesLess x y = true
theorem rise_ext : ∀ (a b : List Bs), RiseN a → RiseN b → (∀ x, x ∈ a ↔ x ∈ b) → a = b
  | [], [], _, _, _ => rfl
  | [], y :: s, _, _, h => absurd ((h y).2 (List.mem_cons_self ..)) (by simp)
  | x :: r, [], _, _, h => absurd ((h x).1 (List.mem_cons_self ..)) (by simp)
  | x :: r, y :: s, ha, hb, h => by
    obtain ⟨a1, a2⟩ := List.pairwise_cons.1 ha
    obtain ⟨b1, b2⟩ := List.pairwise_cons.1 hb
    have e : x = y := by
      rcases List.mem_cons.1 ((h x).1 (List.mem_cons_self ..)) with e | hx
      · exact e
      · rcases List.mem_cons.1 ((h y).2 (List.mem_cons_self ..)) with e | hy
        · exact e.symm
        · have := less_trans (a1 y hy) (b1 x hx)
          rw [less_irr] at this
          cases this
    subst e
    have hr : ∀ z, z ∈ r ↔ z ∈ s := fun z => by
      constructor
      · intro hz
        rcases List.mem_cons.1 ((h z).1 (List.mem_cons_of_mem _ hz)) with e | hz2
        · subst e
          have := a1 z hz
          rw [less_irr] at this
          cases this
        · exact hz2
      · intro hz
        rcases List.mem_cons.1 ((h z).2 (List.mem_cons_of_mem _ hz)) with e | hz2
        · subst e
          have := b1 z hz
          rw [less_irr] at this
          cases this
        · exact hz2
    rw [rise_ext r s a2 b2 hr]
theorem compare_name {a b : Bs} (ha : name a = true) (hb : name b = true) : compare a b ≤ 0 ↔ a = b ∨ Op.bytesLess a b = true := by
  unfold compare
  rw [split_plain a (name_slash ha), split_plain b (name_slash hb), less_cmp]
  show (if a = b then cmpP [] [] else Lib.compareBytes a b) ≤ 0 ↔ _
  by_cases h : a = b
  · simp [h, cmpP]
  · rw [if_neg h]
    have h0 : Lib.compareBytes a b ≠ 0 := fun e => h ((cmpB_eq a b).1 e)
    rcases cmpB_range a b with h1 | h1 | h1
    · simp [h1]
    · exact absurd h1 h0
    · simp [h1, h]
theorem put18_true (s : Bs) : ∀ (l : List Bs), (∀ x ∈ l, Op.bytesLess s x = true) → put18 s true l = l
  | [], _ => by rw [put18]; rfl
  | x :: r, h => by
    have h1 : ¬ x = s := by
      rintro rfl
      have := h x (List.mem_cons_self ..)
      rw [less_irr] at this
      cases this
    rw [put18, if_neg (by simp), if_neg h1, Bool.true_or, put18_true s r fun y hy => h y (List.mem_cons_of_mem _ hy)]
    rfl
theorem put18_rise (s : Bs) (hs : name s = true) : ∀ (l : List Bs), RiseN l → (∀ x ∈ l, name x = true) → RiseN (put18 s false l) ∧ ∀ x, x ∈ put18 s false l ↔ x = s ∨ x ∈ l
  | [], _, _ => by
    rw [put18, if_neg (by decide)]
    exact ⟨List.pairwise_singleton .., fun x => by simp⟩
  | y :: r, hl, hn => by
    obtain ⟨h1, h2⟩ := List.pairwise_cons.1 hl
    have hy := hn y (List.mem_cons_self ..)
    have hc := compare_name hs hy
    rw [put18]
    by_cases h : compare s y ≤ 0
    · rw [if_pos ⟨rfl, h⟩, decide_eq_true h, Bool.or_true]
      have hlr : ∀ x ∈ r, Op.bytesLess s x = true := fun x hx => by
        rcases hc.1 h with e | h3
        · rw [e]; exact h1 x hx
        · exact less_trans h3 (h1 x hx)
      rw [put18_true s r hlr]
      by_cases he : y = s
      · rw [if_pos he]
        subst he
        exact ⟨hl, fun x => by simp⟩
      · rw [if_neg he]
        have hsy : Op.bytesLess s y = true := (hc.1 h).resolve_left fun e => he e.symm
        refine ⟨List.pairwise_cons.2 ⟨fun x hx => ?_, hl⟩, fun x => by simp⟩
        rcases List.mem_cons.1 hx with rfl | hx
        · exact hsy
        · exact hlr x hx
    · rw [if_neg (fun h3 => h h3.2), decide_eq_false h, Bool.or_false]
      have hne : ¬ y = s := fun e => h (hc.2 (.inl e.symm))
      have hys : Op.bytesLess y s = true := by
        have hsy : ¬ Op.bytesLess s y = true := fun e => h (hc.2 (.inr e))
        exact less_other (fun e => hne e.symm) hsy
      obtain ⟨i1, i2⟩ := put18_rise s hs r h2 fun x hx => hn x (List.mem_cons_of_mem _ hx)
      rw [if_neg hne]
      show RiseN (y :: put18 s false r) ∧ ∀ x, x ∈ y :: put18 s false r ↔ _
      refine ⟨List.pairwise_cons.2 ⟨fun x hx => ?_, i1⟩, fun x => ?_⟩
      · rcases (i2 x).1 hx with rfl | hx
        · exact hys
        · exact h1 x hx
      · rw [List.mem_cons, i2 x, List.mem_cons]
        constructor
        · rintro (h | h | h)
          · exact .inr (.inl h)
          · exact .inl h
          · exact .inr (.inr h)
        · rintro (h | h | h)
          · exact .inr (.inl h)
          · exact .inl h
          · exact .inr (.inr h)
theorem belowS_go (d : Bs) : ∀ (l : List DE) (out : List Bs), (∀ e ∈ l, under e.1 d = true → name ((parts e.1).getD (parts d).length []) = true) → RiseN out → (∀ x ∈ out, name x = true) →
    RiseN (l.foldl (fun out e => if under e.1 d = true then put18 ((parts e.1).getD (parts d).length []) false out else out) out) ∧
    ∀ x, x ∈ l.foldl (fun out e => if under e.1 d = true then put18 ((parts e.1).getD (parts d).length []) false out else out) out ↔ x ∈ out ∨ ∃ e ∈ l, under e.1 d = true ∧ (parts e.1).getD (parts d).length [] = x
  | [], out, _, h, _ => ⟨h, fun x => by simp⟩
  | e :: r, out, hl, h, hn => by
    rw [List.foldl_cons]
    by_cases hu : under e.1 d = true
    · rw [if_pos hu]
      have hs := hl e (List.mem_cons_self ..) hu
      obtain ⟨p1, p2⟩ := put18_rise _ hs out h hn
      obtain ⟨i1, i2⟩ := belowS_go d r _ (fun x hx => hl x (List.mem_cons_of_mem _ hx)) p1 fun x hx => by
        rcases (p2 x).1 hx with rfl | hx
        · exact hs
        · exact hn x hx
      refine ⟨i1, fun x => ?_⟩
      rw [i2 x, p2 x]
      constructor
      · rintro ((rfl | h) | ⟨y, hy, h1, h2⟩)
        · exact .inr ⟨e, List.mem_cons_self .., hu, rfl⟩
        · exact .inl h
        · exact .inr ⟨y, List.mem_cons_of_mem _ hy, h1, h2⟩
      · rintro (h | ⟨y, hy, h1, h2⟩)
        · exact .inl (.inr h)
        · rcases List.mem_cons.1 hy with rfl | hy
          · exact .inl (.inl h2.symm)
          · exact .inr ⟨y, hy, h1, h2⟩
    · rw [if_neg hu]
      obtain ⟨i1, i2⟩ := belowS_go d r out (fun x hx => hl x (List.mem_cons_of_mem _ hx)) h hn
      refine ⟨i1, fun x => ?_⟩
      rw [i2 x]
      constructor
      · rintro (h | ⟨y, hy, h1, h2⟩)
        · exact .inl h
        · exact .inr ⟨y, List.mem_cons_of_mem _ hy, h1, h2⟩
      · rintro (h | ⟨y, hy, h1, h2⟩)
        · exact .inl h
        · rcases List.mem_cons.1 hy with rfl | hy
          · exact absurd h1 hu
          · exact .inr ⟨y, hy, h1, h2⟩
theorem under_name {p d : Bs} (hp : check p = 0) (hu : under p d = true) : name ((parts p).getD (parts d).length []) = true := by
  have hc := check_parts hp
  have h4 := hc.2.2.2
  rw [← hc.1] at h4
  rw [List.getD_eq_getElem?_getD, List.getElem?_eq_getElem (under_parts hu).2.2.1, Option.getD_some]
  exact List.all_eq_true.1 h4 _ (List.getElem_mem _)
theorem belowS_rise {l : List DE} (hm : ∀ e ∈ l, check e.1 = 0) (d : Bs) : RiseN (belowS d l) ∧ ∀ x, x ∈ belowS d l ↔ ∃ e ∈ l, under e.1 d = true ∧ (parts e.1).getD (parts d).length [] = x := by
  obtain ⟨h1, h2⟩ := belowS_go d l [] (fun e he hu => under_name (hm e he) hu) List.Pairwise.nil (fun x h => by cases h)
  exact ⟨h1, fun x => (h2 x).trans (by simp)⟩
theorem rnames_mem (d : Bs) : ∀ (m : List DE) (out : List Bs) (x : Bs), x ∈ rnames d out m ↔ x ∈ out ∨ ∃ e ∈ m, under e.1 d = true ∧ (parts e.1).getD (parts d).length [] = x
  | [], out, x => by rw [rnames]; simp
  | e :: r, out, x => by
    rw [rnames]
    by_cases hu : under e.1 d = true
    · rw [if_pos hu]
      show x ∈ rnames d (if out.getLast? = some ((parts e.1).getD (parts d).length []) then out else out ++ [(parts e.1).getD (parts d).length []]) r ↔ _
      obtain ⟨s, hs⟩ : ∃ s, s = (parts e.1).getD (parts d).length [] := ⟨_, rfl⟩
      rw [← hs, rnames_mem d r _ x]
      have hin : x ∈ (if out.getLast? = some s then out else out ++ [s]) ↔ x ∈ out ∨ x = s := by
        split
        · rename_i h
          constructor
          · exact .inl
          · rintro (h2 | rfl)
            · exact h2
            · exact List.mem_of_getLast? h
        · simp
      rw [hin]
      constructor
      · rintro ((h | h) | ⟨y, hy, h1, h2⟩)
        · exact .inl h
        · exact .inr ⟨e, List.mem_cons_self .., hu, by rw [← hs, h]⟩
        · exact .inr ⟨y, List.mem_cons_of_mem _ hy, h1, h2⟩
      · rintro (h | ⟨y, hy, h1, h2⟩)
        · exact .inl (.inl h)
        · rcases List.mem_cons.1 hy with rfl | hy
          · exact .inl (.inr (by rw [hs, h2]))
          · exact .inr ⟨y, hy, h1, h2⟩
    · rw [if_neg hu, rnames_mem d r out x]
      constructor
      · rintro (h | ⟨y, hy, h1, h2⟩)
        · exact .inl h
        · exact .inr ⟨y, List.mem_cons_of_mem _ hy, h1, h2⟩
      · rintro (h | ⟨y, hy, h1, h2⟩)
        · exact .inl h
        · rcases List.mem_cons.1 hy with rfl | hy
          · exact absurd h1 hu
          · exact .inr ⟨y, hy, h1, h2⟩
theorem find_dir {t : T} {d : Bs} (hd : Dir d) : findS t d = findT t (parts d) := by
  unfold findS
  rcases hd with rfl | h
  · rw [if_pos rfl, parts_empty]; rfl
  · have h1 : d ≠ [] := by rintro rfl; exact check_nil h
    have h2 : parts d ≠ [] := by rw [(check_parts h).1]; exact split_ne d
    rw [if_neg h1, if_neg h2]
theorem findT_snoc : ∀ (d : List Bs) (t : T) (n : Bs), findT t (d ++ [n]) = (findT t d).bind fun s => kid s.kids n
  | [], t, n => by
    show (kid t.kids n).bind (fun s => findT s []) = kid t.kids n
    cases kid t.kids n <;> rfl
  | m :: d, t, n => by
    show (kid t.kids m).bind (fun s => findT s (d ++ [n])) = ((kid t.kids m).bind fun s => findT s d).bind _
    cases h : kid t.kids m with
    | none => rfl
    | some s => exact findT_snoc d s n
theorem find_down {t : T} {d n : Bs} (hd : Dir d) (h1 : Dir (down d n)) (h2 : parts (down d n) = parts d ++ [n]) : findS t (down d n) = (findS t d).bind fun s => kid s.kids n := by
  rw [find_dir h1, find_dir hd, h2, findT_snoc]
theorem names_node {o : Option T} {m : List DE} (P : Both o m) {d : Bs} (hd : Dir d) : rnames d [] m = (nodeS (o.getD .nil) d).2.map (·.1) ∧ rget m d = (nodeS (o.getD .nil) d).1 := by
  obtain ⟨h1, h2⟩ := at_both P.eq P.go P.gm d hd
  unfold nodeS
  rw [find_dir hd]
  cases hf : findT (o.getD .nil) (parts d) with
  | none =>
    rw [hf] at h1
    refine ⟨?_, ?_⟩
    · rw [names_subs d hd m P.gm.1 [], h1]; rfl
    · rw [get_subs m P.gm.1 d hd, h1]; rfl
  | some s =>
    obtain ⟨_, k2, k3⟩ := h2 s hf
    refine ⟨?_, ?_⟩
    · rw [k3, nodeT_kids, List.map_map]; rfl
    · rw [k2, nodeT_leaf]
theorem node_rise {o : Option T} (h : GoodO o) (d : Bs) (hd : Dir d) : RiseN ((nodeS (o.getD .nil) d).2.map (·.1)) := by
  unfold nodeS
  rw [find_dir hd]
  cases hf : findT (o.getD .nil) (parts d) with
  | none => exact List.Pairwise.nil
  | some s =>
    have hok := (findT_subs (parts d) (o.getD .nil) (getD_ok h.1)).2 s hf
    show RiseN ((nodeT s).2.map (·.1))
    rw [nodeT_kids, List.map_map]
    exact (ok_rise hok).1
def KOf (x y : List Kid) (k : Two) : Prop :=
  ((k.2.1 = true ∧ (k.1, k.2.2.2.1) ∈ x) ∨ (k.2.1 = false ∧ k.1 ∉ x.map (·.1))) ∧ ((k.2.2.1 = true ∧ (k.1, k.2.2.2.2) ∈ y) ∨ (k.2.2.1 = false ∧ k.1 ∉ y.map (·.1))) ∧ (k.1 ∈ x.map (·.1) ∨ k.1 ∈ y.map (·.1))
theorem kof_x {a : Kid} {x y : List Kid} {k : Two} (h : KOf x y k) (hl : Op.bytesLess a.1 k.1 = true) : KOf (a :: x) y k := by
  obtain ⟨h1, h2, h3⟩ := h
  refine ⟨?_, h2, h3.imp (fun h => by rw [List.map_cons]; exact List.mem_cons_of_mem _ h) id⟩
  rcases h1 with ⟨h, h4⟩ | ⟨h, h4⟩
  · exact .inl ⟨h, List.mem_cons_of_mem _ h4⟩
  · refine .inr ⟨h, fun h5 => ?_⟩
    rw [List.map_cons] at h5
    rcases List.mem_cons.1 h5 with h6 | h6
    · rw [h6, less_irr] at hl; cases hl
    · exact h4 h6
theorem kof_y {a : Kid} {x y : List Kid} {k : Two} (h : KOf x y k) (hl : Op.bytesLess a.1 k.1 = true) : KOf x (a :: y) k := by
  obtain ⟨h1, h2, h3⟩ := h
  refine ⟨h1, ?_, h3.imp id (fun h => by rw [List.map_cons]; exact List.mem_cons_of_mem _ h)⟩
  rcases h2 with ⟨h, h4⟩ | ⟨h, h4⟩
  · exact .inl ⟨h, List.mem_cons_of_mem _ h4⟩
  · refine .inr ⟨h, fun h5 => ?_⟩
    rw [List.map_cons] at h5
    rcases List.mem_cons.1 h5 with h6 | h6
    · rw [h6, less_irr] at hl; cases hl
    · exact h4 h6
theorem less_not {a : Bs} {l : List Bs} (h : ∀ n ∈ l, Op.bytesLess a n = true) : a ∉ l := fun hm => by
  have := h a hm
  rw [less_irr] at this
  cases this
theorem kids2_of : ∀ (x y : List Kid), RiseN (x.map (·.1)) → RiseN (y.map (·.1)) →
    RiseN ((kids2 x y).map (·.1)) ∧ (∀ k ∈ kids2 x y, KOf x y k) ∧ ∀ n, (n ∈ x.map (·.1) ∨ n ∈ y.map (·.1)) → n ∈ (kids2 x y).map (·.1)
  | [], [], _, _ => by
    rw [kids2]
    exact ⟨List.Pairwise.nil, (fun k h => by cases h), fun n h => by rcases h with h | h <;> cases h⟩
  | a :: r, [], hx, hy => by
    obtain ⟨x1, x2⟩ := List.pairwise_cons.1 hx
    obtain ⟨i1, i2, i3⟩ := kids2_of r [] x2 hy
    have up : ∀ k ∈ kids2 r [], Op.bytesLess a.1 k.1 = true := fun k hk => by
      rcases (i2 k hk).2.2 with h | h
      · exact x1 _ h
      · cases h
    rw [kids2]
    refine ⟨?_, fun k hk => ?_, fun n h => ?_⟩
    · rw [List.map_cons]
      refine List.pairwise_cons.2 ⟨fun n hn => ?_, i1⟩
      obtain ⟨k, hk, rfl⟩ := List.mem_map.1 hn
      exact up k hk
    · rcases List.mem_cons.1 hk with rfl | hk
      · exact ⟨.inl ⟨rfl, List.mem_cons_self ..⟩, .inr ⟨rfl, by simp⟩, .inl (by simp)⟩
      · exact kof_x (i2 k hk) (up k hk)
    · rw [List.map_cons]
      rcases h with h | h
      · rw [List.map_cons] at h
        rcases List.mem_cons.1 h with rfl | h
        · exact List.mem_cons_self ..
        · exact List.mem_cons_of_mem _ (i3 n (.inl h))
      · cases h
  | [], b :: s, hx, hy => by
    obtain ⟨y1, y2⟩ := List.pairwise_cons.1 hy
    obtain ⟨i1, i2, i3⟩ := kids2_of [] s hx y2
    have up : ∀ k ∈ kids2 [] s, Op.bytesLess b.1 k.1 = true := fun k hk => by
      rcases (i2 k hk).2.2 with h | h
      · cases h
      · exact y1 _ h
    rw [kids2]
    refine ⟨?_, fun k hk => ?_, fun n h => ?_⟩
    · rw [List.map_cons]
      refine List.pairwise_cons.2 ⟨fun n hn => ?_, i1⟩
      obtain ⟨k, hk, rfl⟩ := List.mem_map.1 hn
      exact up k hk
    · rcases List.mem_cons.1 hk with rfl | hk
      · exact ⟨.inr ⟨rfl, by simp⟩, .inl ⟨rfl, List.mem_cons_self ..⟩, .inr (by simp)⟩
      · exact kof_y (i2 k hk) (up k hk)
    · rw [List.map_cons]
      rcases h with h | h
      · cases h
      · rw [List.map_cons] at h
        rcases List.mem_cons.1 h with rfl | h
        · exact List.mem_cons_self ..
        · exact List.mem_cons_of_mem _ (i3 n (.inr h))
  | a :: r, b :: s, hx, hy => by
    obtain ⟨x1, x2⟩ := List.pairwise_cons.1 hx
    obtain ⟨y1, y2⟩ := List.pairwise_cons.1 hy
    rw [kids2]
    by_cases q1 : Op.bytesLess a.1 b.1 = true
    · rw [if_pos q1]
      obtain ⟨i1, i2, i3⟩ := kids2_of r (b :: s) x2 hy
      have hb : ∀ n ∈ (b :: s).map (·.1), Op.bytesLess a.1 n = true := fun n hn => by
        rw [List.map_cons] at hn
        rcases List.mem_cons.1 hn with rfl | hn
        · exact q1
        · exact less_trans q1 (y1 n hn)
      have up : ∀ k ∈ kids2 r (b :: s), Op.bytesLess a.1 k.1 = true := fun k hk => by
        rcases (i2 k hk).2.2 with h | h
        · exact x1 _ h
        · exact hb _ h
      refine ⟨?_, fun k hk => ?_, fun n h => ?_⟩
      · rw [List.map_cons]
        refine List.pairwise_cons.2 ⟨fun n hn => ?_, i1⟩
        obtain ⟨k, hk, rfl⟩ := List.mem_map.1 hn
        exact up k hk
      · rcases List.mem_cons.1 hk with rfl | hk
        · exact ⟨.inl ⟨rfl, List.mem_cons_self ..⟩, .inr ⟨rfl, less_not hb⟩, .inl (by simp)⟩
        · exact kof_x (i2 k hk) (up k hk)
      · rw [List.map_cons]
        rcases h with h | h
        · rw [List.map_cons] at h
          rcases List.mem_cons.1 h with rfl | h
          · exact List.mem_cons_self ..
          · exact List.mem_cons_of_mem _ (i3 n (.inl h))
        · exact List.mem_cons_of_mem _ (i3 n (.inr h))
    · rw [if_neg q1]
      by_cases q2 : Op.bytesLess b.1 a.1 = true
      · rw [if_pos q2]
        obtain ⟨i1, i2, i3⟩ := kids2_of (a :: r) s hx y2
        have hb : ∀ n ∈ (a :: r).map (·.1), Op.bytesLess b.1 n = true := fun n hn => by
          rw [List.map_cons] at hn
          rcases List.mem_cons.1 hn with rfl | hn
          · exact q2
          · exact less_trans q2 (x1 n hn)
        have up : ∀ k ∈ kids2 (a :: r) s, Op.bytesLess b.1 k.1 = true := fun k hk => by
          rcases (i2 k hk).2.2 with h | h
          · exact hb _ h
          · exact y1 _ h
        refine ⟨?_, fun k hk => ?_, fun n h => ?_⟩
        · rw [List.map_cons]
          refine List.pairwise_cons.2 ⟨fun n hn => ?_, i1⟩
          obtain ⟨k, hk, rfl⟩ := List.mem_map.1 hn
          exact up k hk
        · rcases List.mem_cons.1 hk with rfl | hk
          · exact ⟨.inr ⟨rfl, less_not hb⟩, .inl ⟨rfl, List.mem_cons_self ..⟩, .inr (by simp)⟩
          · exact kof_y (i2 k hk) (up k hk)
        · rw [List.map_cons]
          rcases h with h | h
          · exact List.mem_cons_of_mem _ (i3 n (.inl h))
          · rw [List.map_cons] at h
            rcases List.mem_cons.1 h with rfl | h
            · exact List.mem_cons_self ..
            · exact List.mem_cons_of_mem _ (i3 n (.inr h))
      · rw [if_neg q2]
        have e : a.1 = b.1 := Decidable.byContradiction fun h => q2 (less_other h q1)
        obtain ⟨i1, i2, i3⟩ := kids2_of r s x2 y2
        have up : ∀ k ∈ kids2 r s, Op.bytesLess a.1 k.1 = true := fun k hk => by
          rcases (i2 k hk).2.2 with h | h
          · exact x1 _ h
          · rw [e]; exact y1 _ h
        refine ⟨?_, fun k hk => ?_, fun n h => ?_⟩
        · rw [List.map_cons]
          refine List.pairwise_cons.2 ⟨fun n hn => ?_, i1⟩
          obtain ⟨k, hk, rfl⟩ := List.mem_map.1 hn
          exact up k hk
        · rcases List.mem_cons.1 hk with rfl | hk
          · exact ⟨.inl ⟨rfl, List.mem_cons_self ..⟩, .inl ⟨rfl, by rw [e]; exact List.mem_cons_self ..⟩, .inl (by simp)⟩
          · exact kof_y (kof_x (i2 k hk) (up k hk)) (by rw [← e]; exact up k hk)
        · rw [List.map_cons]
          rcases h with h | h
          · rw [List.map_cons] at h
            rcases List.mem_cons.1 h with rfl | h
            · exact List.mem_cons_self ..
            · exact List.mem_cons_of_mem _ (i3 n (.inl h))
          · rw [List.map_cons] at h
            rcases List.mem_cons.1 h with rfl | h
            · rw [← e]; exact List.mem_cons_self ..
            · exact List.mem_cons_of_mem _ (i3 n (.inr h))
termination_by x y => x.length + y.length
theorem kid_no : ∀ (k : List (Bs × T)) (n : Bs), n ∉ k.map (·.1) → kid k n = none
  | [], _, _ => rfl
  | (m, s) :: r, n, h => by
    rw [List.map_cons] at h
    rw [kid, if_neg (fun e => h (by rw [← e]; exact List.mem_cons_self ..))]
    exact kid_no r n fun h2 => h (List.mem_cons_of_mem _ h2)
theorem kid_find {o : Option T} (h : GoodO o) {d n : Bs} (hd : Dir d) (h1 : Dir (down d n)) (h2 : parts (down d n) = parts d ++ [n]) :
    (∀ x, (n, x) ∈ (nodeS (o.getD .nil) d).2 → ∃ u, findS (o.getD .nil) (down d n) = some u ∧ nsum (nodeT u) = x) ∧ (n ∉ (nodeS (o.getD .nil) d).2.map (·.1) → findS (o.getD .nil) (down d n) = none) := by
  rw [find_down hd h1 h2]
  unfold nodeS
  cases hf : findS (o.getD .nil) d with
  | none => exact ⟨(fun x h => by cases h), fun _ => rfl⟩
  | some s =>
    have hok := (findT_subs (parts d) (o.getD .nil) (getD_ok h.1)).2 s (by rw [← find_dir hd]; exact hf)
    show (∀ x, (n, x) ∈ (nodeT s).2 → ∃ u, kid s.kids n = some u ∧ nsum (nodeT u) = x) ∧ (n ∉ (nodeT s).2.map (·.1) → kid s.kids n = none)
    rw [nodeT_kids]
    refine ⟨fun x hx => ?_, fun hn => kid_no s.kids n (by rw [List.map_map] at hn; exact hn)⟩
    obtain ⟨⟨m, u⟩, hu, e⟩ := List.mem_map.1 hx
    obtain ⟨i, hi, e2⟩ := List.mem_iff_getElem.1 hu
    have hk := kid_at s.kids i hi (ok_rise hok).1
    rw [e2] at hk
    have e3 : m = n := congrArg Prod.fst e
    have e4 : nsum (nodeT u) = x := congrArg Prod.snd e
    rw [← e3]
    exact ⟨u, hk, e4⟩
theorem differ_both {oa ob : Option T} (ha : GoodO oa) (hb : GoodO ob) {d : Bs} (hd : Dir d) {k : Two} (h1 : Dir (down d k.1)) (h2 : parts (down d k.1) = parts d ++ [k.1]) (hk : KOf (nodeS (oa.getD .nil) d).2 (nodeS (ob.getD .nil) d).2 k) : diffS oa ob (down d k.1) = differ2 k := by
  obtain ⟨a1, a2⟩ := kid_find ha hd h1 h2
  obtain ⟨b1, b2⟩ := kid_find hb hd h1 h2
  obtain ⟨n, i, t, x, y⟩ := k
  obtain ⟨k1, k2, k3⟩ := hk
  unfold diffS differ2
  rcases k1 with ⟨e1, k1⟩ | ⟨e1, k1⟩
  · obtain ⟨u, hu, hx⟩ := a1 _ k1
    rcases k2 with ⟨e2, k2⟩ | ⟨e2, k2⟩
    · obtain ⟨v, hv, hy⟩ := b1 _ k2
      simp only at e1 e2 hx hy hu hv ⊢
      rw [hu, hv]
      simp only [hx, hy, e1, e2]
      by_cases h : x = y <;> simp [h]
    · have hv := b2 k2
      simp only at e1 e2 hu hv ⊢
      rw [hu, hv, e1, e2]
      rfl
  · have hu := a2 k1
    rcases k2 with ⟨e2, k2⟩ | ⟨e2, k2⟩
    · obtain ⟨v, hv, hy⟩ := b1 _ k2
      simp only at e1 e2 hu hv ⊢
      rw [hu, hv, e1, e2]
      rfl
    · rcases k3 with h | h
      · exact absurd h k1
      · exact absurd h k2
def openT (a b : T) : Nat → Bs → List Bs
  | 0, _ => []
  | f + 1, d => d :: ((kids2 (nodeS a d).2 (nodeS b d).2).filter differ2).flatMap fun k => openT a b f (down d k.1)
theorem flat_filter {α β : Type} (p : α → Bool) (g h : α → List β) : ∀ (L : List α), (∀ k ∈ L, h k = if p k = true then g k else []) → L.flatMap h = (L.filter p).flatMap g
  | [], _ => rfl
  | k :: r, hl => by
    rw [List.flatMap_cons, hl k (List.mem_cons_self ..), flat_filter p g h r fun x hx => hl x (List.mem_cons_of_mem _ hx)]
    cases hp : p k with
    | true => rw [if_pos rfl, List.filter_cons_of_pos hp, List.flatMap_cons]
    | false => rw [if_neg (by decide), List.filter_cons_of_neg (by rw [hp]; decide)]; rfl
theorem below_kids {oa ob : Option T} {ma mb : List DE} (PA : Both oa ma) (PB : Both ob mb) {d : Bs} (hd : Dir d) : belowS d (ma ++ mb) = (kids2 (nodeS (oa.getD .nil) d).2 (nodeS (ob.getD .nil) d).2).map (·.1) := by
  have hchk : ∀ e ∈ ma ++ mb, check e.1 = 0 := fun e he => (List.mem_append.1 he).elim (PA.gm.1 e) (PB.gm.1 e)
  obtain ⟨b1, b2⟩ := belowS_rise hchk d
  obtain ⟨k1, k2, k3⟩ := kids2_of _ _ (node_rise PA.go d hd) (node_rise PB.go d hd)
  refine rise_ext _ _ b1 k1 fun x => ?_
  have na := rnames_mem d ma [] x
  have nb := rnames_mem d mb [] x
  rw [(names_node PA hd).1] at na
  rw [(names_node PB hd).1] at nb
  rw [b2 x]
  constructor
  · rintro ⟨e, he, h1, h2⟩
    refine k3 x ?_
    rcases List.mem_append.1 he with h | h
    · exact .inl (na.2 (.inr ⟨e, h, h1, h2⟩))
    · exact .inr (nb.2 (.inr ⟨e, h, h1, h2⟩))
  · intro hx
    obtain ⟨k, hk, rfl⟩ := List.mem_map.1 hx
    rcases (k2 k hk).2.2 with h | h
    · rcases na.1 h with h | ⟨e, he, h1, h2⟩
      · exact absurd h (by simp)
      · exact ⟨e, List.mem_append_left _ he, h1, h2⟩
    · rcases nb.1 h with h | ⟨e, he, h1, h2⟩
      · exact absurd h (by simp)
      · exact ⟨e, List.mem_append_right _ he, h1, h2⟩
theorem kid_two {oa ob : Option T} {ma mb : List DE} (PA : Both oa ma) (PB : Both ob mb) {d : Bs} (hd : Dir d) {k : Two} (hk : k ∈ kids2 (nodeS (oa.getD .nil) d).2 (nodeS (ob.getD .nil) d).2) :
    Dir (down d k.1) ∧ parts (down d k.1) = parts d ++ [k.1] ∧ (parts d).length + 1 ≤ 4 ∧ k.1.length ≤ 12 ∧ diffS oa ob (down d k.1) = differ2 k := by
  have hchk : ∀ e ∈ ma ++ mb, check e.1 = 0 := fun e he => (List.mem_append.1 he).elim (PA.gm.1 e) (PB.gm.1 e)
  have hb : k.1 ∈ belowS d (ma ++ mb) := by rw [below_kids PA PB hd]; exact List.mem_map_of_mem hk
  obtain ⟨d1, d2, d3, d4⟩ := below_down hchk hd hb
  exact ⟨d1, d2, d3, d4, differ_both PA.go PB.go hd d1 d2 ((kids2_of _ _ (node_rise PA.go d hd) (node_rise PB.go d hd)).2.1 k hk)⟩
theorem open_both {oa ob : Option T} {ma mb : List DE} (PA : Both oa ma) (PB : Both ob mb) : ∀ (f : Nat) (d : Bs), Dir d → openS oa ob (ma ++ mb) f d = if diffS oa ob d = true then openT (oa.getD .nil) (ob.getD .nil) f d else []
  | 0, d, _ => by rw [openS, openT]; split <;> rfl
  | f + 1, d, hd => by
    rw [openS, openT]
    by_cases h : diffS oa ob d = true
    · rw [if_pos h, if_pos h, below_kids PA PB hd, List.flatMap_map]
      congr 1
      refine flat_filter _ _ _ _ fun k hk => ?_
      obtain ⟨d1, _, _, _, d5⟩ := kid_two PA PB hd hk
      rw [open_both PA PB f (down d k.1) d1, d5]
    · rw [if_neg h, if_neg h]
theorem diff_root (oa ob : Option T) : diffS oa ob [] = decide (nsum (nodeT (oa.getD .nil)) ≠ nsum (nodeT (ob.getD .nil))) := by
  unfold diffS findS
  rw [if_pos rfl, if_pos rfl]
theorem openT_dir {oa ob : Option T} {ma mb : List DE} (PA : Both oa ma) (PB : Both ob mb) : ∀ (f : Nat) (d : Bs), Dir d → ∀ e ∈ openT (oa.getD .nil) (ob.getD .nil) f d, Dir e
  | 0, d, _, e, h => by cases h
  | f + 1, d, hd, e, h => by
    rw [openT] at h
    rcases List.mem_cons.1 h with rfl | h
    · exact hd
    · obtain ⟨k, hk, h2⟩ := List.mem_flatMap.1 h
      obtain ⟨d1, _⟩ := kid_two PA PB hd (List.mem_filter.1 hk).1
      exact openT_dir PA PB f _ d1 e h2
def leafdiff (a b : T) (d : Bs) : Bool := !decide ((nodeS a d).1 = (nodeS b d).1)
theorem leaf_root {o : Option T} {m : List DE} (P : Both o m) : (nodeS (o.getD .nil) []).1 = [] := by
  rw [← (names_node P (.inl rfl)).2]
  exact rget_bad P.gm.1 check_nil
def openedT (a b : T) : List Bs := if nsum (nodeT a) = nsum (nodeT b) then [] else openT a b 5 []
theorem opened_both {oa ob : Option T} {ma mb : List DE} (PA : Both oa ma) (PB : Both ob mb) : openS oa ob (ma ++ mb) 5 [] = openedT (oa.getD .nil) (ob.getD .nil) := by
  rw [open_both PA PB 5 [] (.inl rfl), diff_root, openedT]
  by_cases h : nsum (nodeT (oa.getD .nil)) = nsum (nodeT (ob.getD .nil)) <;> simp [h]
end Sp
end Go.Proofs.YtmlfnidckfeebaaGreatDoor
