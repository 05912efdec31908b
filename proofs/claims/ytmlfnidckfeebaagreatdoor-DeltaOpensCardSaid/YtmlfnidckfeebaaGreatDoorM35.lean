/- Walks: whether leaves, and entries, are too much to be asked. Walks: chapter 15's examples. Walks: texts that are the same; the first path behind a text; what holds of a tree and the document's list. Walks, plain: Count is the document's; what is listed behind the last path; what is below a directory, in parts. Walks: pins: those of a list of which something is so. Walks: pins: the place of a tree that is of use. Deltas: a name below a directory; do two lists differ at a directory? -/
import Derived.Stop.BytesEq
import Derived.Test.YtmlfnidckfeebaaGreatDoorM06
import Derived.Test.YtmlfnidckfeebaaGreatDoorM34
import Derived.Test.YtmlfnidckfeebaaGreatDoorM32
import Derived.Deep.DeepCutAuto
import Derived.Test.YtmlfnidckfeebaaGreatDoorM33
import Derived.Test.YtmlfnidckfeebaaGreatDoorM30
namespace Go.Proofs.YtmlfnidckfeebaaGreatDoor
open Go.RowKit Go.Shelf
attribute [local go_sem] yUpon strOf_toList
set_option maxRecDepth 100000 in
set_option maxHeartbeats 4000000 in
/-- One leaf. -/
theorem great7_calls (vs : List Sp.Ver) (A : Option Addr) (cap gb : Nat) (w : World) (hx : isBlk w gb 41 #[.slice A vs.length cap]) (h : Vers w A vs) :
    Calls Tryz.prog 102 #[.slice (some ⟨gb, 0, none⟩) 1 1] w fun e w' => ∃ b : Bool, e = .returned (.bool b) ∧ w = w' := by
  have HV := Lib.hid h
  have f0 := (hx.cell 0).trans rfl
  clear h hx
  go_enter Tryz.func102, Tryz.ntmps102
  go_wp2
  go_loopw [3] (fun v3 wr => ∃ k : Nat, k ≤ 1 ∧ v3 = .int .i64 k ∧ w = wr) (fun v3 _ => 1 - (intOf v3).toNat)
  case atStart => exact ⟨0, Nat.zero_le _, rfl, rfl⟩
  case round =>
    obtain ⟨k, hk, rfl, rfl⟩ := hrel
    by_cases hlt : k < 1
    · obtain rfl : k = 0 := by omega
      by_cases h70 : 70 < vs.length
      · have c1 : (70 : Int) < (vs.length : Int) := by omega
        go_wp2
        go_ret
        exact ⟨true, rfl, rfl⟩
      · have c1 : ¬ (70 : Int) < (vs.length : Int) := by omega
        have c2 : vs.length ≤ 70 := by omega
        go_wp2
        go_loopw [4, 5] (fun v4 v5 wr => ∃ (j n : Nat), j ≤ vs.length ∧ n ≤ 400 ∧ v4 = .int .i64 n ∧ v5 = .int .i64 j ∧ w = wr) (fun _ v5 _ => vs.length - (intOf v5).toNat)
        case atStart => exact ⟨0, 0, Nat.zero_le _, Nat.zero_le _, rfl, rfl, rfl⟩
        case round =>
          obtain ⟨j, n, hj, hn, rfl, rfl, rfl⟩ := hrel
          by_cases hjl : j < vs.length
          · obtain ⟨a, o, rfl, hat⟩ := HV.out.at (by omega)
            obtain ⟨A', cap', hv, hp⟩ := hat j hjl
            obtain ⟨x, hxx⟩ : ∃ x, x = vs[j] := ⟨_, rfl⟩
            rw [← hxx] at hv hp
            have g2 := hv.c2
            have g4 := hv.c4
            have hpl := hp.2
            obtain ⟨q, hq⟩ : ∃ q, q = x.past.length := ⟨_, rfl⟩
            rw [← hq] at g2 hpl
            obtain ⟨n2, hn2⟩ : ∃ n2, n2 = n + q := ⟨_, rfl⟩
            have w1 : IntKind.i64.wrap ((n : Int) + (q : Int)) = (n2 : Int) := by rw [IntKind.wrap_i64]; omega
            have b1 : (j : Int) < (vs.length : Int) := by omega
            clear hat hv hp hxx hq hn2
            by_cases h4 : 400 < n2
            · have e1 : (400 : Int) < (n2 : Int) := by omega
              go_wp2
              go_ret
              exact ⟨true, rfl, rfl⟩
            · have e1 : ¬ (400 : Int) < (n2 : Int) := by omega
              have e2 : n2 ≤ 400 := by omega
              by_cases h2 : 200 < (strOf x.data).size
              · have e3 : (200 : Int) < ((strOf x.data).size : Int) := by omega
                go_wp2
                go_ret
                first
                  | exact ⟨true, rfl, rfl⟩
                  | exact .inr rfl
                  | exact .inr ⟨rfl, rfl⟩
                  | (simp; done)
              · have e3 : ¬ (200 : Int) < ((strOf x.data).size : Int) := by omega
                go_wp2
                go_roundw
                case rel => exact ⟨j + 1, n2, by omega, e2, rfl, by go_num, by first | rfl | trivial⟩
                case measure => simp [intOf]; omega
          · obtain rfl : j = vs.length := by omega
            go_wp2
            go_roundw
            case rel => exact ⟨1, Nat.le_refl _, by go_num, by first | rfl | trivial⟩
            case measure => simp [intOf]
    · obtain rfl : k = 1 := by omega
      go_wp2
      go_ret
      exact ⟨false, rfl, rfl⟩
set_option maxRecDepth 100000 in
set_option maxHeartbeats 4000000 in
/-- Entries: what holds if they are not too much. -/
theorem great15_calls (l : List Sp.DE) (A : Option Addr) (cap most : Nat) (w : World) (h : EntsAt w A l) (hmost : most ≤ 1000) :
    Calls Tryz.prog 37 #[.slice A l.length cap, .int .i64 most] w fun e w' => ∃ b : Bool, e = .returned (.bool b) ∧ (b = false → l.length ≤ most ∧ ∀ e ∈ l, e.1.length ≤ 200) ∧ Ext w w' := by
  have HH := Lib.hid h
  clear h
  go_enter Tryz.func37, Tryz.ntmps37
  by_cases hm : most < l.length
  · have c1 : (most : Int) < (l.length : Int) := by omega
    go_wp2
    go_ret
    exact ⟨true, rfl, (fun h => by cases h), Ext.refl _⟩
  · have c1 : ¬ (most : Int) < (l.length : Int) := by omega
    have c0 : l.length ≤ most := by omega
    have CM := Lib.hid c0
    have cl : l.length ≤ 1000 := by omega
    go_wp2
    go_loopw [5] (fun v5 wr => ∃ k : Nat, k ≤ l.length ∧ v5 = .int .i64 k ∧ (∀ i (h : i < l.length), i < k → (l[i]).1.length ≤ 200) ∧ Ext w wr) (fun v5 _ => l.length - (intOf v5).toNat)
    case atStart => exact ⟨0, Nat.zero_le _, rfl, fun i h h0 => absurd h0 (Nat.not_lt_zero i), Ext.refl _⟩
    case round =>
      obtain ⟨k, hk, rfl, ha, hb⟩ := hrel
      have HA := Lib.hid ha
      have HB := Lib.hid hb
      clear ha
      by_cases hlt : k < l.length
      · obtain ⟨eb, eo, rfl, he⟩ := HH.out.at (by omega)
        obtain ⟨Av, cv, e0, e1, hv⟩ := he k hlt
        have e0' := hb.cell e0
        have e1' := hb.cell e1
        obtain ⟨x, hx⟩ : ∃ x, x = l[k] := ⟨_, rfl⟩
        rw [← hx] at e0' e1' hv
        have HX := Lib.hid hx
        have HV := Lib.hid hv
        have b1 : (k : Int) < (l.length : Int) := by omega
        clear he e0 e1 hx hv hb
        by_cases h2 : 200 < (strOf x.1).size
        · have d1 : (200 : Int) < ((strOf x.1).size : Int) := by omega
          go_wp2
          go_ret
          exact ⟨true, rfl, (fun h => by cases h), HB.out⟩
        · have d1 : ¬ (200 : Int) < ((strOf x.1).size : Int) := by omega
          have P200 := Lib.hid (show x.1.length ≤ 200 by rw [strOf_size] at h2; omega)
          go_wp2_with fail
          have GC := great7_calls x.2 Av cv wr.heap.size (wr.alloc (.cells #[.slice Av x.2.length cv] 41)) (heap_alloc_new _ _) (HV.out.ext (HB.out.trans (Ext.alloc _ _)))
          refine GC.mono ?_
          rintro e w1 ⟨b, rfl, hw1⟩
          have B1 := Lib.hid (show Ext w w1 by rw [← hw1]; exact HB.out.trans (Ext.alloc _ _))
          clear hw1 GC
          cases b with
          | true =>
            go_wp2
            go_ret
            exact ⟨true, rfl, (fun h => by cases h), B1.out⟩
          | false =>
            go_wp2
            refine ⟨⟨k + 1, by omega, by go_num, fun i hi h1 => ?_, B1.out⟩, by simp [intOf]; omega⟩
            by_cases hik : i = k
            · subst hik
              have := P200.out
              rw [HX.out] at this
              exact this
            · exact HA.out i hi (by omega)
      · obtain rfl : k = l.length := by omega
        go_wp2
        go_ret
        exact ⟨false, rfl, fun _ => ⟨CM.out, fun e he => by
          obtain ⟨i, hi, rfl⟩ := List.getElem_of_mem he
          exact HA.out i hi hi⟩, HB.out⟩
end Go.Proofs.YtmlfnidckfeebaaGreatDoor
namespace Go.Proofs.YtmlfnidckfeebaaGreatDoor
open Go.RowKit Go.Shelf
attribute [local go_sem] yUpon strOf_toList
theorem dig_guard : Tryz.prog.eqGuardType Tryz.prog.depth 36 = false := by kernel_rfl
end Go.Proofs.YtmlfnidckfeebaaGreatDoor
namespace Go.Proofs.YtmlfnidckfeebaaGreatDoor
open Go.RowKit Go.Shelf
attribute [local go_sem] yUpon strOf_toList
set_option maxRecDepth 100000 in
set_option maxHeartbeats 4000000 in
theorem texts_calls (l : List Sp.Bs) (A B : Option Addr) (cap cap' : Nat) (w : World) (h : Nams w A l) (h' : Nams w B l) (hl : l.length ≤ 1000000) :
    Calls Tryz.prog 19 #[.slice A l.length cap, .slice B l.length cap'] w fun e w' => e = .returned (.bool true) ∧ Ext w w' := by
  have HH := Lib.hid h
  have HH' := Lib.hid h'
  have b0 : ((l.length : Int) != (l.length : Int)) = false := by simp
  clear h h'
  go_enter Tryz.func19, Tryz.ntmps19
  go_wp2
  go_loopw [5] (fun v5 wr => ∃ k : Nat, k ≤ l.length ∧ v5 = .int .i64 k ∧ Ext w wr) (fun v5 _ => l.length - (intOf v5).toNat)
  case atStart => exact ⟨0, Nat.zero_le _, rfl, Ext.refl _⟩
  case round =>
    obtain ⟨k, hk, rfl, hb⟩ := hrel
    have HB := Lib.hid hb
    by_cases hlt : k < l.length
    · obtain ⟨g, o, rfl, hc⟩ := (HH.out.ext hb).at (by omega)
      obtain ⟨g', o', rfl, hc'⟩ := (HH'.out.ext hb).at (by omega)
      have c0 := hc k hlt
      have d0 := hc' k hlt
      obtain ⟨x, hx⟩ : ∃ x, x = l[k] := ⟨_, rfl⟩
      rw [← hx] at c0 d0
      have C0 := Lib.hid c0
      have D0 := Lib.hid d0
      have b2 : (k : Int) < (l.length : Int) := by omega
      clear hb hc hc' c0 d0 hx
      go_wp2_with fail
      refine wp_region_det (fun W => Ext wr W) (by kernel_rfl) (by kernel_rfl) (Below.refl _ _).drew ?_
      repeat (first
        | (refine det_step (fun K hK => ?_)
           apply Exists.intro
           refine ⟨Or.inl ⟨rfl, fun W hS => ?_⟩, ?_⟩
           · replace hS : Ext wr W := hS
             have f0 := hS.cell C0.out; have z0 := hS.cell D0.out
             go_simp
             first
             | exact rfl
             | exact ⟨rfl, hS⟩
             | (fail)
           go_simp
           refine hK _ ?_
           clear hK K)
        | (refine det_step (fun K hK => ?_); refine det_no' rfl ?_; go_simp; refine hK _ ?_; clear hK K))
      refine det_nil ?_
      intro W9 hS
      replace hS : Ext _ W9 := hS
      have EW := Lib.hid (HB.out.trans hS)
      clear hS
      go_wp2
      go_roundw
      case rel => exact ⟨k + 1, by omega, by go_num, EW.out⟩
      case measure => simp [intOf]; omega
    · obtain rfl : k = l.length := by omega
      clear hb
      go_wp2
      go_ret
      exact ⟨rfl, HB.out⟩
namespace Sp
structure Both (o : Option T) (m : List DE) : Prop where
  go : GoodO o
  gm : GoodM m
  eq : toP m = entriesO o
theorem both_of (l : List DE) : Both (ofT none l).1 (rof [] l).1 := ⟨ofT_good l none good_none, rof_good l [] goodM_nil, (of_both l none [] rfl good_none).2⟩
theorem Both.told {o : Option T} {m : List DE} (h : Both o m) : Sp.told o = m := told_eq h.eq
theorem Both.short {o : Option T} {m : List DE} (h : Both o m) : ∀ x ∈ entriesO o, x.1.length ≤ 60 := told_short h.eq h.gm
theorem Both.len {o : Option T} {m : List DE} (h : Both o m) : ∀ e ∈ Sp.told o, e.1.length ≤ 1000 := fun e he => by
  rw [h.told] at he
  exact Nat.le_trans (check_parts (h.gm.1 e he)).2.1 (by decide)
theorem Both.many {o : Option T} {m : List DE} (h : Both o m) : (Sp.told o).length ≤ 1000 := by rw [h.told]; exact Nat.le_trans h.gm.2 (by decide)
theorem Both.paths {o : Option T} {m : List DE} (h : Both o m) : ∀ e ∈ Sp.told o, check e.1 = 0 := by rw [h.told]; exact h.gm.1
theorem Both.leaf {o : Option T} {m : List DE} (h : Both o m) : ∀ e ∈ m, e.2.length ≤ 1000000 := told_leaf h.eq h.go
theorem Both.mlen {o : Option T} {m : List DE} (h : Both o m) : ∀ e ∈ m, e.1.length ≤ 1000000 := fun e he => Nat.le_trans (check_parts (h.gm.1 e he)).2.1 (by decide)
end Sp
end Go.Proofs.YtmlfnidckfeebaaGreatDoor
namespace Go.Proofs.YtmlfnidckfeebaaGreatDoor
open Go.RowKit Go.Shelf
namespace Sp
mutual
theorem entries_leaf : ∀ (t : T), ∀ e ∈ entries t, e.2 ≠ []
  | .mk leaf k, e, h => by
    rw [entries] at h
    rcases List.mem_append.1 h with h | h
    · by_cases hl : leaf = []
      · rw [if_pos hl] at h; cases h
      · rw [if_neg hl] at h
        obtain rfl := List.mem_singleton.1 h
        exact hl
    · exact entriesL_leaf k e h
theorem entriesL_leaf : ∀ (k : List (Bs × T)), ∀ e ∈ entriesL k, e.2 ≠ []
  | [], e, h => by rw [entriesL] at h; cases h
  | (n, t) :: r, e, h => by
    rw [entriesL] at h
    rcases List.mem_append.1 h with h | h
    · obtain ⟨x, hx, rfl⟩ := List.mem_map.1 h
      exact entries_leaf t x hx
    · exact entriesL_leaf r e h
end
theorem Both.rise {o : Option T} {m : List DE} (h : Both o m) : RiseE (toP m) := by rw [h.eq]; exact riseO h.go.1
theorem Both.full {o : Option T} {m : List DE} (h : Both o m) : ∀ e ∈ m, e.2 ≠ [] := fun e he => by
  have h1 : (split e.1, e.2) ∈ entriesO o := by rw [← h.eq]; exact List.mem_map.2 ⟨e, he, rfl⟩
  cases o with
  | none => cases h1
  | some t => exact entries_leaf t _ h1
theorem under_parts {p d : Bs} (h : under p d = true) : parts p ≠ [] ∧ (d = [] ∨ parts d ≠ []) ∧ (parts d).length < (parts p).length ∧ (parts p).take (parts d).length = parts d := by
  unfold under at h
  simpa [and_assoc] using h
theorem under_of {p d : Bs} (h : parts p ≠ [] ∧ (d = [] ∨ parts d ≠ []) ∧ (parts d).length < (parts p).length ∧ (parts p).take (parts d).length = parts d) : under p d = true := by
  unfold under
  simpa [and_assoc] using h
theorem cmpP_app : ∀ (D a b : List Bs), cmpP (D ++ a) (D ++ b) = cmpP a b
  | [], _, _ => rfl
  | x :: D, a, b => by
    rw [List.cons_append, List.cons_append, cmpP, if_pos rfl]
    exact cmpP_app D a b
theorem split_at {α : Type} (l : List α) (n : Nat) (d : α) (h : n < l.length) : l = l.take n ++ l.getD n d :: l.drop (n + 1) := by
  rw [List.getD_eq_getElem?_getD, List.getElem?_eq_getElem h, Option.getD_some, List.getElem_cons_drop, List.take_append_drop]
/-- So many paths stand right below a directory. -/
def here (n : Nat) (l : List DE) : Nat := (l.filter fun e => decide ((parts e.1).length = n + 1)).length
end Sp
end Go.Proofs.YtmlfnidckfeebaaGreatDoor
namespace Go.Proofs.YtmlfnidckfeebaaGreatDoor
open Go.RowKit Go.Shelf
attribute [local go_sem] yUpon strOf_toList
/-- A pin: the tree's pointer, what it is, when it was last of use. -/
abbrev Pin := Option Addr × Option Sp.T × Int
def pinV (x : Pin) : Value := .agg #[.pointer x.1, .int .i64 x.2.2]
end Go.Proofs.YtmlfnidckfeebaaGreatDoor
namespace Go.Proofs.YtmlfnidckfeebaaGreatDoor
open Go.RowKit Go.Shelf
attribute [local go_sem] yUpon strOf_toList
theorem dig_eqv (x y : Sp.Bs) (h : x.length = 32) (h' : y.length = 32) (w : World) : (Op.equalIn 10000 36 (.agg (digC x)) (.agg (digC y))).run Tryz.prog w = .ok (x == y) w :=
  run_equalIn_bytes (P := Tryz.prog) w 9998 36 5 32 Tryz.underlying36 Tryz.underlying5 (fun w => Tryz.sizeOf5 w) x y h h'
end Go.Proofs.YtmlfnidckfeebaaGreatDoor
namespace Go.Proofs.YtmlfnidckfeebaaGreatDoor
open Go.RowKit Go.Shelf
attribute [local go_sem] yUpon strOf_toList
namespace Sp
/-- Do two trees differ at a directory? -/
def diffS (oa ob : Option T) (d : Bs) : Bool := match findS (oa.getD .nil) d, findS (ob.getD .nil) d with
  | some s, some t => decide (nsum (nodeT s) ≠ nsum (nodeT t))
  | none, none => false
  | _, _ => true
end Sp
theorem rnode_sum (s : Sp.T) (hok : Sp.Ok s) (hk : s.kids.length ≤ 200) (A B : Option Addr) (c c' : Nat) (W : World) (hv : Vers W A s.leaf) (hB : Kids W B (Sp.nodeT s).2) (K : KeysAt W 0) :
    Calls Tryz.prog 217 #[nodeV A s.leaf.length c B s.kids.length c'] W fun e w' => e = .returned (digV (Sp.nsum (Sp.nodeT s))) ∧ Ext W w' := by
  have nl : (Sp.nodeT s).2.length = s.kids.length := by rw [nodeT_kids, List.length_map]
  have l0 : Sp.leaf s.leaf = 0 := by
    cases hs : s with
    | mk leaf kids =>
      rw [hs] at hok
      by_cases h0 : leaf = []
      · rw [h0]; rfl
      · exact hok.1 h0
  have := rnsum_calls (Sp.nodeT s) A B c c' W (by rw [nodeT_leaf]; exact hv) hB (by rw [nodeT_leaf]; exact Nat.le_trans (Sp.leaf_ok l0).1 (by decide)) (by rw [nodeT_leaf]; exact fun v hv => ⟨Nat.le_trans (Sp.leaf_data l0 v hv) (by decide), Nat.le_trans ((Sp.leaf_fit fun _ => l0).2 v hv) (by decide)⟩) (by rw [nl]; omega) K
  rw [nodeT_leaf, nl] at this
  exact this
set_option maxRecDepth 100000 in
set_option maxHeartbeats 4000000 in
theorem rdiffers_calls (oa ob : Option Sp.T) (ma mb : List Sp.DE) (PA : Sp.Both oa ma) (PB : Sp.Both ob mb) (A B : Option Addr) (cap cap' : Nat) (d : Sp.Bs) (hdl : d.length ≤ 1000) (w : World) (hA : EntsAt w A ma) (hB : EntsAt w B mb) (K : KeysAt w 0) :
    Calls Tryz.prog 141 #[.slice A ma.length cap, .slice B mb.length cap', .string (strOf d)] w fun e w' => e = .returned (.bool (Sp.diffS oa ob d)) ∧ Ext w w' := by
  have TA := Lib.hid (rthere_calls ma A cap d w hA (Nat.le_trans PA.gm.2 (by decide)) PA.mlen (by omega))
  have TB := Lib.hid fun W (e : Ext w W) => rthere_calls mb B cap' d W (hB.ext e) (Nat.le_trans PB.gm.2 (by decide)) PB.mlen (by omega)
  rw [Sp.there_both PA.eq PA.go PA.gm d] at TA
  rw [Sp.there_both PB.eq PB.go PB.gm d] at TB
  have DS := Lib.hid (show Sp.diffS oa ob d = match Sp.findS (oa.getD .nil) d, Sp.findS (ob.getD .nil) d with | some s, some t => decide (Sp.nsum (Sp.nodeT s) ≠ Sp.nsum (Sp.nodeT t)) | none, none => false | _, _ => true from rfl)
  have FA := Lib.hid fun s (h : Sp.findS (oa.getD .nil) d = some s) => Sp.find_both PA.eq PA.go PA.gm h
  have FB := Lib.hid fun s (h : Sp.findS (ob.getD .nil) d = some s) => Sp.find_both PB.eq PB.go PB.gm h
  have GA := Lib.hid PA.gm
  have GB := Lib.hid PB.gm
  have HA := Lib.hid hA
  have HB := Lib.hid hB
  have KK := Lib.hid K
  clear PA PB hA hB K
  go_enter Tryz.func141, Tryz.ntmps141
  go_wp2_with fail
  refine TA.out.mono ?_
  rintro e w1 ⟨rfl, hb1⟩
  have E1 := Lib.hid hb1
  clear hb1
  go_wp2_with fail
  refine (TB.out w1 E1.out).mono ?_
  rintro e w2 ⟨rfl, hb2⟩
  have E2 := Lib.hid (E1.out.trans hb2)
  clear hb2 TA TB
  cases ha : Sp.findS (oa.getD .nil) d with
  | none =>
    cases hb : Sp.findS (ob.getD .nil) d with
    | none =>
      rw [ha, hb] at DS
      go_wp2
      go_ret
      exact ⟨by rw [DS.out]; rfl, E2.out⟩
    | some t =>
      rw [ha, hb] at DS
      go_wp2
      go_ret
      exact ⟨by rw [DS.out]; rfl, E2.out⟩
  | some s =>
    cases hb : Sp.findS (ob.getD .nil) d with
    | none =>
      rw [ha, hb] at DS
      go_wp2
      go_ret
      exact ⟨by rw [DS.out]; rfl, E2.out⟩
    | some t =>
      rw [ha, hb] at DS
      obtain ⟨d1, a2, a3, a4⟩ := FA.out s ha
      obtain ⟨_, b2, b3, b4⟩ := FB.out t hb
      have ka : s.kids.length ≤ 200 := by
        have h1 := Sp.kids_size s.kids (ok_rise a2).2
        have h2 := Sp.sizeT_n0 s
        omega
      have kb : t.kids.length ≤ 200 := by
        have h1 := Sp.kids_size t.kids (ok_rise b2).2
        have h2 := Sp.sizeT_n0 t
        omega
      have NA := Lib.hid fun W (e : Ext w W) => rnode_calls ma GA.out A cap 5 d s W (by omega) d1 a2 (by omega) a4 (HA.out.ext e) (KK.out.ext e)
      have NB := Lib.hid fun W (e : Ext w W) => rnode_calls mb GB.out B cap' 5 d t W (by omega) d1 b2 (by omega) b4 (HB.out.ext e) (KK.out.ext e)
      have SA := Lib.hid fun A B c c' W hv hB K => rnode_sum s a2 ka A B c c' W hv hB K
      have SB := Lib.hid fun A B c c' W hv hB K => rnode_sum t b2 kb A B c c' W hv hB K
      obtain ⟨x, hx⟩ : ∃ x, x = Sp.nsum (Sp.nodeT s) := ⟨_, rfl⟩
      obtain ⟨y, hy⟩ : ∃ y, y = Sp.nsum (Sp.nodeT t) := ⟨_, rfl⟩
      have hq := fun W => dig_eqv x y (by rw [hx]; exact Sp.nsum_len _) (by rw [hy]; exact Sp.nsum_len _) W
      have hg := dig_guard
      rw [← hx] at SA
      rw [← hy] at SB
      have DS2 := Lib.hid (show Sp.diffS oa ob d = !(x == y) by
        rw [DS.out, hx, hy]
        show decide (Sp.nsum (Sp.nodeT s) ≠ Sp.nsum (Sp.nodeT t)) = _
        by_cases h : Sp.nsum (Sp.nodeT s) = Sp.nsum (Sp.nodeT t) <;> simp [h])
      obtain ⟨q, hqq⟩ : ∃ q, q = (x == y) := ⟨_, rfl⟩
      rw [← hqq] at hq DS2
      clear ha hb d1 a2 a3 a4 b2 b3 b4 ka kb hx hy hqq DS FA FB
      go_wp2_with fail
      refine (NA.out w2 E2.out).mono ?_
      rintro e w3 ⟨A3, c3, B3, c3', rfl, hv3, hk3, hb3⟩
      have E3 := Lib.hid (E2.out.trans hb3)
      have S3 := Lib.hid (SA.out A3 B3 c3 c3' w3 hv3 hk3 (KK.out.ext E3.out))
      clear hv3 hk3 hb3
      go_wp2_with fail
      refine S3.out.mono ?_
      rintro e w4 ⟨rfl, hb4⟩
      have E4 := Lib.hid (E3.out.trans hb4)
      clear hb4 S3
      go_wp2_with fail
      refine (NB.out w4 E4.out).mono ?_
      rintro e w5 ⟨A5, c5, B5, c5', rfl, hv5, hk5, hb5⟩
      have E5 := Lib.hid (E4.out.trans hb5)
      have S5 := Lib.hid (SB.out A5 B5 c5 c5' w5 hv5 hk5 (KK.out.ext E5.out))
      clear hv5 hk5 hb5
      go_wp2_with fail
      refine S5.out.mono ?_
      rintro e w6 ⟨rfl, hb6⟩
      have E6 := Lib.hid (E5.out.trans hb6)
      clear hb6 S5
      go_wp2
      go_ret
      exact ⟨by rw [DS2.out]; rfl, E6.out⟩
set_option maxRecDepth 100000 in
theorem ddown_calls (d n : Sp.Bs) (w : World) (hdl : d.length ≤ 1000) (hnl : n.length ≤ 1000) : Calls Tryz.prog 215 #[.string (strOf d), .string (strOf n)] w fun e w' => e = .returned (.string (strOf (Sp.down d n))) ∧ w = w' := by
  go_enter Tryz.func215, Tryz.ntmps215
  by_cases hd : d = []
  · subst hd
    have c1 : (([] : List UInt8).isEmpty) = true := rfl
    go_wp2
    go_ret
    exact ⟨by rw [Sp.down, if_pos rfl]; rfl, rfl⟩
  · have c5 : d.isEmpty = false := by cases d with | nil => exact absurd rfl hd | cons _ _ => rfl
    have c6 : (d == []) = false := by rw [beq_eq_false_iff_ne]; exact hd
    have z1 : ¬ 9223372036854775807 < (strOf d).size + 1 := by rw [strOf_size]; omega
    have z2 : ¬ 9223372036854775807 < (strOf d).size + 1 + (strOf n).size := by rw [strOf_size, strOf_size]; omega
    go_wp2
    go_ret
    have e : strOf d ++ ⟨#[47]⟩ ++ strOf n = strOf (Sp.down d n) := by
      rw [Sp.down, if_neg hd]
      apply ByteArray.ext
      simp [strOf]
    exact ⟨congrArg (fun s => Ending.returned (.string s)) e, rfl⟩
end Go.Proofs.YtmlfnidckfeebaaGreatDoor
