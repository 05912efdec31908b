/- Walks: the document's node of a directory. Walks: the document's node of a directory is the tree's. What is found in a tree is what the document's list has there: plain. Walks: the root's digest: the document's. What is seen of a tree is a tree; a tree's entries with whole paths: plain. Walks: the document's Under and Count; walk.Count. Walks: slices.Compact at names. Walks: Dirs, of the program and of the document. Walks: Dirs of the document; Depth. What '==' says of a kid and itself. Walks: whether leaves, and entries, are too much to be asked. The examples of chapter 15: plain. Walks: chapter 15's examples. Walks: Depth, of the program and of the document; the example of chapter 16. Walks: the example of chapter 16. Walks: texts that are the same; the first path behind a text; what holds of a tree and the document's list. -/
import Derived.Test.YteiblfcehlibpaaGreatDoorGF37
import Derived.Test.YteiblfcehlibpaaGreatDoorGF35
import Derived.Test.YteiblfcehlibpaaGreatDoorGF42
import Derived.Test.YteiblfcehlibpaaGreatDoorGF41
import Derived.Test.YteiblfcehlibpaaGreatDoorGF23
import Derived.Test.YteiblfcehlibpaaGreatDoorGF04
import Derived.Stop.BytesEq
namespace Go.Proofs.YteiblfcehlibpaaGreatDoor
open Go.RowKit Go.Shelf
attribute [local go_sem] yUpon strOf_toList
section
variable {P : Program} {ops : Array Oper}
end
end Go.Proofs.YteiblfcehlibpaaGreatDoor
namespace Go.Proofs.YteiblfcehlibpaaGreatDoor
open Go.RowKit Go.Shelf
end Go.Proofs.YteiblfcehlibpaaGreatDoor
namespace Go.Proofs.YteiblfcehlibpaaGreatDoor
open Go.RowKit
section
variable {P : Program} {ops : Array Oper} {T : World → Prop}
end
namespace Sp
end Sp
end Go.Proofs.YteiblfcehlibpaaGreatDoor
namespace Go.Proofs.YteiblfcehlibpaaGreatDoor
open Go.RowKit Go.Shelf
attribute [local go_sem] yUpon strOf_toList
end Go.Proofs.YteiblfcehlibpaaGreatDoor
namespace Go.Proofs.YteiblfcehlibpaaGreatDoor
open Go.RowKit
namespace Sp
theorem told_eq {o : Option T} {m : List DE} (he : toP m = entriesO o) : told o = m := by
  unfold told
  rw [← he]
  unfold toP
  rw [List.map_map]
  conv => rhs; rw [← List.map_id m]
  refine List.map_congr_left fun e _ => ?_
  show (joinP (split e.1), e.2) = e
  rw [join_split]
theorem told_short {o : Option T} {m : List DE} (he : toP m = entriesO o) (hm : GoodM m) : ∀ x ∈ entriesO o, x.1.length ≤ 60 := fun x hx => by
  rw [← he] at hx
  obtain ⟨e, h1, rfl⟩ := List.mem_map.1 hx
  exact Nat.le_trans (check_parts (hm.1 e h1)).2.2.1 (by decide)
theorem told_leaf {o : Option T} {m : List DE} (he : toP m = entriesO o) (ho : GoodO o) : ∀ e ∈ m, e.2.length ≤ 1000000 := fun e h => by
  have : (split e.1, e.2) ∈ entriesO o := by rw [← he]; exact List.mem_map_of_mem h
  exact (told_fit ho _ this).1
end Sp
end Go.Proofs.YteiblfcehlibpaaGreatDoor
namespace Go.Proofs.YteiblfcehlibpaaGreatDoor
open Go.RowKit Go.Shelf
attribute [local go_sem] yUpon strOf_toList
namespace Sp
end Sp
end Go.Proofs.YteiblfcehlibpaaGreatDoor
namespace Go.Proofs.YteiblfcehlibpaaGreatDoor
open Go.RowKit Go.Shelf
attribute [local go_sem] yUpon strOf_toList
namespace Sp
end Sp
end Go.Proofs.YteiblfcehlibpaaGreatDoor
namespace Go.Proofs.YteiblfcehlibpaaGreatDoor
open Go.RowKit Go.Shelf
attribute [local go_sem] yUpon strOf_toList
namespace Sp
end Sp
end Go.Proofs.YteiblfcehlibpaaGreatDoor
namespace Go.Proofs.YteiblfcehlibpaaGreatDoor
open Go.RowKit Go.Shelf
attribute [local go_sem] yUpon strOf_toList
end Go.Proofs.YteiblfcehlibpaaGreatDoor
namespace Go.Proofs.YteiblfcehlibpaaGreatDoor
open Go.RowKit
open Go.Shelf
attribute [local go_sem] yUpon
end Go.Proofs.YteiblfcehlibpaaGreatDoor
namespace Go.Proofs.YteiblfcehlibpaaGreatDoor
open Go.RowKit Go.Shelf
attribute [local go_sem] yUpon strOf_toList
set_option maxRecDepth 100000 in
set_option maxHeartbeats 4000000 in
/-- One leaf. -/
theorem great7_calls (vs : List Sp.Ver) (A : Option Addr) (cap gb : Nat) (w : World) (hx : isBlk w gb 49 #[.slice A vs.length cap]) (h : Vers w A vs) :
    Calls Tryz.prog 54 #[.slice (some ⟨gb, 0, none⟩) 1 1] w fun e w' => ∃ b : Bool, e = .returned (.bool b) ∧ w = w' := by
  have HV := Lib.hid h
  have f0 := (hx.cell 0).trans rfl
  clear h hx
  go_enter Tryz.func54, Tryz.ntmps54
  go_wp2
  go_loopw [3] (fun v3 wr => ∃ k : Nat, k ≤ 1 ∧ v3 = .int .i64 k ∧ w = wr) (fun v3 _ => 1 - (intOf v3).toNat)
  case atStart => exact ⟨0, Nat.zero_le _, rfl, rfl⟩
  case round =>
    obtain ⟨k, hk, rfl, rfl⟩ := hrel
    by_cases hlt : k < 1
    · obtain rfl : k = 0 := by omega
      by_cases h70 : 70 < vs.length
      · have c1 : (70 : Int) < (vs.length : Int) := by omega
        go_wp2
        go_ret
        exact ⟨true, rfl, rfl⟩
      · have c1 : ¬ (70 : Int) < (vs.length : Int) := by omega
        have c2 : vs.length ≤ 70 := by omega
        go_wp2
        go_loopw [4, 5] (fun v4 v5 wr => ∃ (j n : Nat), j ≤ vs.length ∧ n ≤ 400 ∧ v4 = .int .i64 n ∧ v5 = .int .i64 j ∧ w = wr) (fun _ v5 _ => vs.length - (intOf v5).toNat)
        case atStart => exact ⟨0, 0, Nat.zero_le _, Nat.zero_le _, rfl, rfl, rfl⟩
        case round =>
          obtain ⟨j, n, hj, hn, rfl, rfl, rfl⟩ := hrel
          by_cases hjl : j < vs.length
          · obtain ⟨a, o, rfl, hat⟩ := HV.out.at (by omega)
            obtain ⟨A', cap', hv, hp⟩ := hat j hjl
            obtain ⟨x, hxx⟩ : ∃ x, x = vs[j] := ⟨_, rfl⟩
            rw [← hxx] at hv hp
            have g2 := hv.c2
            have g4 := hv.c4
            have hpl := hp.2
            obtain ⟨q, hq⟩ : ∃ q, q = x.past.length := ⟨_, rfl⟩
            rw [← hq] at g2 hpl
            obtain ⟨n2, hn2⟩ : ∃ n2, n2 = n + q := ⟨_, rfl⟩
            have w1 : IntKind.i64.wrap ((n : Int) + (q : Int)) = (n2 : Int) := by rw [IntKind.wrap_i64]; omega
            have b1 : (j : Int) < (vs.length : Int) := by omega
            clear hat hv hp hxx hq hn2
            by_cases h4 : 400 < n2
            · have e1 : (400 : Int) < (n2 : Int) := by omega
              go_wp2
              go_ret
              exact ⟨true, rfl, rfl⟩
            · have e1 : ¬ (400 : Int) < (n2 : Int) := by omega
              have e2 : n2 ≤ 400 := by omega
              by_cases h2 : 200 < (strOf x.data).size
              · have e3 : (200 : Int) < ((strOf x.data).size : Int) := by omega
                go_wp2
                go_ret
                first
                  | exact ⟨true, rfl, rfl⟩
                  | exact .inr rfl
                  | exact .inr ⟨rfl, rfl⟩
                  | (simp; done)
              · have e3 : ¬ (200 : Int) < ((strOf x.data).size : Int) := by omega
                go_wp2
                go_roundw
                case rel => exact ⟨j + 1, n2, by omega, e2, rfl, by go_num, by first | rfl | trivial⟩
                case measure => simp [intOf]; omega
          · obtain rfl : j = vs.length := by omega
            go_wp2
            go_roundw
            case rel => exact ⟨1, Nat.le_refl _, by go_num, by first | rfl | trivial⟩
            case measure => simp [intOf]
    · obtain rfl : k = 1 := by omega
      go_wp2
      go_ret
      exact ⟨false, rfl, rfl⟩
set_option maxRecDepth 100000 in
set_option maxHeartbeats 4000000 in
/-- Entries: what holds if they are not too much. -/
theorem great15_calls (l : List Sp.DE) (A : Option Addr) (cap most : Nat) (w : World) (h : EntsAt w A l) (hmost : most ≤ 1000) :
    Calls Tryz.prog 20 #[.slice A l.length cap, .int .i64 most] w fun e w' => ∃ b : Bool, e = .returned (.bool b) ∧ (b = false → l.length ≤ most ∧ ∀ e ∈ l, e.1.length ≤ 200) ∧ Ext w w' := by
  have HH := Lib.hid h
  clear h
  go_enter Tryz.func20, Tryz.ntmps20
  by_cases hm : most < l.length
  · have c1 : (most : Int) < (l.length : Int) := by omega
    go_wp2
    go_ret
    exact ⟨true, rfl, (fun h => by cases h), Ext.refl _⟩
  · have c1 : ¬ (most : Int) < (l.length : Int) := by omega
    have c0 : l.length ≤ most := by omega
    have CM := Lib.hid c0
    have cl : l.length ≤ 1000 := by omega
    go_wp2
    go_loopw [5] (fun v5 wr => ∃ k : Nat, k ≤ l.length ∧ v5 = .int .i64 k ∧ (∀ i (h : i < l.length), i < k → (l[i]).1.length ≤ 200) ∧ Ext w wr) (fun v5 _ => l.length - (intOf v5).toNat)
    case atStart => exact ⟨0, Nat.zero_le _, rfl, fun i h h0 => absurd h0 (Nat.not_lt_zero i), Ext.refl _⟩
    case round =>
      obtain ⟨k, hk, rfl, ha, hb⟩ := hrel
      have HA := Lib.hid ha
      have HB := Lib.hid hb
      clear ha
      by_cases hlt : k < l.length
      · obtain ⟨eb, eo, rfl, he⟩ := HH.out.at (by omega)
        obtain ⟨Av, cv, e0, e1, hv⟩ := he k hlt
        have e0' := hb.cell e0
        have e1' := hb.cell e1
        obtain ⟨x, hx⟩ : ∃ x, x = l[k] := ⟨_, rfl⟩
        rw [← hx] at e0' e1' hv
        have HX := Lib.hid hx
        have HV := Lib.hid hv
        have b1 : (k : Int) < (l.length : Int) := by omega
        clear he e0 e1 hx hv hb
        by_cases h2 : 200 < (strOf x.1).size
        · have d1 : (200 : Int) < ((strOf x.1).size : Int) := by omega
          go_wp2
          go_ret
          exact ⟨true, rfl, (fun h => by cases h), HB.out⟩
        · have d1 : ¬ (200 : Int) < ((strOf x.1).size : Int) := by omega
          have P200 := Lib.hid (show x.1.length ≤ 200 by rw [strOf_size] at h2; omega)
          go_wp2_with fail
          have GC := great7_calls x.2 Av cv wr.heap.size (wr.alloc (.cells #[.slice Av x.2.length cv] 49)) (heap_alloc_new _ _) (HV.out.ext (HB.out.trans (Ext.alloc _ _)))
          refine GC.mono ?_
          rintro e w1 ⟨b, rfl, hw1⟩
          have B1 := Lib.hid (show Ext w w1 by rw [← hw1]; exact HB.out.trans (Ext.alloc _ _))
          clear hw1 GC
          cases b with
          | true =>
            go_wp2
            go_ret
            exact ⟨true, rfl, (fun h => by cases h), B1.out⟩
          | false =>
            go_wp2
            refine ⟨⟨k + 1, by omega, by go_num, fun i hi h1 => ?_, B1.out⟩, by simp [intOf]; omega⟩
            by_cases hik : i = k
            · subst hik
              have := P200.out
              rw [HX.out] at this
              exact this
            · exact HA.out i hi (by omega)
      · obtain rfl : k = l.length := by omega
        go_wp2
        go_ret
        exact ⟨false, rfl, fun _ => ⟨CM.out, fun e he => by
          obtain ⟨i, hi, rfl⟩ := List.getElem_of_mem he
          exact HA.out i hi hi⟩, HB.out⟩
end Go.Proofs.YteiblfcehlibpaaGreatDoor
namespace Go.Proofs.YteiblfcehlibpaaGreatDoor
open Go.RowKit
namespace Sp
end Sp
end Go.Proofs.YteiblfcehlibpaaGreatDoor
namespace Go.Proofs.YteiblfcehlibpaaGreatDoor
open Go.RowKit Go.Shelf
attribute [local go_sem] yUpon strOf_toList
end Go.Proofs.YteiblfcehlibpaaGreatDoor
namespace Go.Proofs.YteiblfcehlibpaaGreatDoor
open Go.RowKit Go.Shelf
attribute [local go_sem] yUpon strOf_toList
namespace Sp
end Sp
namespace Sp
end Sp
end Go.Proofs.YteiblfcehlibpaaGreatDoor
namespace Go.Proofs.YteiblfcehlibpaaGreatDoor
open Go.RowKit Go.Shelf
attribute [local go_sem] yUpon strOf_toList
end Go.Proofs.YteiblfcehlibpaaGreatDoor
namespace Go.Proofs.YteiblfcehlibpaaGreatDoor
open Go.RowKit Go.Shelf
attribute [local go_sem] yUpon strOf_toList
set_option maxRecDepth 100000 in
set_option maxHeartbeats 4000000 in
theorem texts_calls (l : List Sp.Bs) (A B : Option Addr) (cap cap' : Nat) (w : World) (h : Nams w A l) (h' : Nams w B l) (hl : l.length ≤ 1000000) :
    Calls Tryz.prog 15 #[.slice A l.length cap, .slice B l.length cap'] w fun e w' => e = .returned (.bool true) ∧ Ext w w' := by
  have HH := Lib.hid h
  have HH' := Lib.hid h'
  have b0 : ((l.length : Int) != (l.length : Int)) = false := by simp
  clear h h'
  go_enter Tryz.func15, Tryz.ntmps15
  go_wp2
  go_loopw [5] (fun v5 wr => ∃ k : Nat, k ≤ l.length ∧ v5 = .int .i64 k ∧ Ext w wr) (fun v5 _ => l.length - (intOf v5).toNat)
  case atStart => exact ⟨0, Nat.zero_le _, rfl, Ext.refl _⟩
  case round =>
    obtain ⟨k, hk, rfl, hb⟩ := hrel
    have HB := Lib.hid hb
    by_cases hlt : k < l.length
    · obtain ⟨g, o, rfl, hc⟩ := (HH.out.ext hb).at (by omega)
      obtain ⟨g', o', rfl, hc'⟩ := (HH'.out.ext hb).at (by omega)
      have c0 := hc k hlt
      have d0 := hc' k hlt
      obtain ⟨x, hx⟩ : ∃ x, x = l[k] := ⟨_, rfl⟩
      rw [← hx] at c0 d0
      have C0 := Lib.hid c0
      have D0 := Lib.hid d0
      have b2 : (k : Int) < (l.length : Int) := by omega
      clear hb hc hc' c0 d0 hx
      go_wp2_with fail
      refine wp_region_det (fun W => Ext wr W) (by kernel_rfl) (by kernel_rfl) (Below.refl _ _).drew ?_
      repeat (first
        | (refine det_step (fun K hK => ?_)
           apply Exists.intro
           refine ⟨Or.inl ⟨rfl, fun W hS => ?_⟩, ?_⟩
           · replace hS : Ext wr W := hS
             have f0 := hS.cell C0.out; have z0 := hS.cell D0.out
             go_simp
             first
             | exact rfl
             | exact ⟨rfl, hS⟩
             | (fail)
           go_simp
           refine hK _ ?_
           clear hK K)
        | (refine det_step (fun K hK => ?_); refine det_no' rfl ?_; go_simp; refine hK _ ?_; clear hK K))
      refine det_nil ?_
      intro W9 hS
      replace hS : Ext _ W9 := hS
      have EW := Lib.hid (HB.out.trans hS)
      clear hS
      go_wp2
      go_roundw
      case rel => exact ⟨k + 1, by omega, by go_num, EW.out⟩
      case measure => simp [intOf]; omega
    · obtain rfl : k = l.length := by omega
      clear hb
      go_wp2
      go_ret
      exact ⟨rfl, HB.out⟩
namespace Sp
structure Both (o : Option T) (m : List DE) : Prop where
  go : GoodO o
  gm : GoodM m
  eq : toP m = entriesO o
theorem both_of (l : List DE) : Both (ofT none l).1 (rof [] l).1 := ⟨ofT_good l none good_none, rof_good l [] goodM_nil, (of_both l none [] rfl good_none).2⟩
theorem Both.told {o : Option T} {m : List DE} (h : Both o m) : Sp.told o = m := told_eq h.eq
theorem Both.short {o : Option T} {m : List DE} (h : Both o m) : ∀ x ∈ entriesO o, x.1.length ≤ 60 := told_short h.eq h.gm
theorem Both.len {o : Option T} {m : List DE} (h : Both o m) : ∀ e ∈ Sp.told o, e.1.length ≤ 1000 := fun e he => by
  rw [h.told] at he
  exact Nat.le_trans (check_parts (h.gm.1 e he)).2.1 (by decide)
theorem Both.many {o : Option T} {m : List DE} (h : Both o m) : (Sp.told o).length ≤ 1000 := by rw [h.told]; exact Nat.le_trans h.gm.2 (by decide)
theorem Both.paths {o : Option T} {m : List DE} (h : Both o m) : ∀ e ∈ Sp.told o, check e.1 = 0 := by rw [h.told]; exact h.gm.1
theorem Both.leaf {o : Option T} {m : List DE} (h : Both o m) : ∀ e ∈ m, e.2.length ≤ 1000000 := told_leaf h.eq h.go
theorem Both.mlen {o : Option T} {m : List DE} (h : Both o m) : ∀ e ∈ m, e.1.length ≤ 1000000 := fun e he => Nat.le_trans (check_parts (h.gm.1 e he)).2.1 (by decide)
end Sp
end Go.Proofs.YteiblfcehlibpaaGreatDoor
