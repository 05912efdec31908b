/- What lies in memory: versions. Walks: vectors: get, has. What '==' says of two dots. Walks: vectors: the same. Leaves: plain. -/
import Derived.Test.YteiblfcehlibpaaGreatDoorGF02
import Derived.Test.YteiblfcehlibpaaGreatDoorGF03
import Derived.Laws.StructEq
namespace Go.Proofs.YteiblfcehlibpaaGreatDoor
open Go.RowKit
theorem box_at (w : World) (cs : Array Value) (t : TypeId) : isBlk (w.alloc (.cells cs t)) w.heap.size t cs := heap_alloc_new _ _
/-- A version's five cells. -/
abbrev verC (A : Option Addr) (cap : Nat) (v : Sp.Ver) : Array Value := #[.int .i64 v.dot.1, .int .i64 v.dot.2, .slice A v.past.length cap, .bool v.dead, .string (strOf v.data)]
abbrev verV (A : Option Addr) (cap : Nat) (v : Sp.Ver) : Value := .agg (verC A cap v)
/-- Where a version's vector lies. -/
def Past (w : World) (A : Option Addr) (v : Sp.Ver) : Prop := Dots w A v.past ∧ v.past.length ≤ 140737488351232
theorem Past.ext {w w' : World} {A : Option Addr} {v : Sp.Ver} (h : Past w A v) (e : Ext w w') : Past w' A v := ⟨h.1.ext e, h.2⟩
/-- Versions, cell by cell; P: where each one's vector lies. -/
def versC : List (Option Addr × Nat × Sp.Ver) → List Value
  | [] => []
  | x :: r => (verC x.1 x.2.1 x.2.2).toList ++ versC r
theorem versC_len (l : List (Option Addr × Nat × Sp.Ver)) : (versC l).length = l.length * 5 := by
  induction l with
  | nil => rfl
  | cons d r ih => simp only [versC, List.length_append, ih, List.length_cons]; simp; omega
theorem versC_append (l m : List (Option Addr × Nat × Sp.Ver)) : versC (l ++ m) = versC l ++ versC m := by
  induction l with
  | nil => rfl
  | cons d r ih => simp [versC, ih]
theorem versC_get (l : List (Option Addr × Nat × Sp.Ver)) (k i : Nat) (h : k < l.length) (hi : i < 5) : (versC l)[k * 5 + i]? = (verC l[k].1 l[k].2.1 l[k].2.2)[i]? := by
  induction l generalizing k with
  | nil => simp at h
  | cons d r ih =>
    cases k with
    | zero => rw [versC, List.getElem?_append_left (by simp; omega)]; simp
    | succ k =>
      have := ih k (by simpa using h)
      rw [versC, List.getElem?_append_right (by simp; omega)]
      simp only [List.getElem_cons_succ]
      rw [← this]
      congr 1
      simp; omega
/-- A slice of versions. -/
def Vers (w : World) (A : Option Addr) (l : List Sp.Ver) : Prop := ∃ m : List (Option Addr × Nat × Sp.Ver), m.map (·.2.2) = l ∧ Cells w A (versC m) ∧ ∀ x ∈ m, Past w x.1 x.2.2
theorem Vers.ext {w w' : World} {A : Option Addr} {l : List Sp.Ver} (h : Vers w A l) (e : Ext w w') : Vers w' A l := by
  obtain ⟨m, h1, h2, h3⟩ := h
  exact ⟨m, h1, h2.ext e, fun x hx => (h3 x hx).ext e⟩
theorem Vers.nil (w : World) (A : Option Addr) : Vers w A [] := ⟨[], rfl, Cells.nil _ _, fun _ h => by cases h⟩
/-- The cells of the version at a place. -/
structure VerAt (w : World) (g o : Nat) (A : Option Addr) (cap : Nat) (v : Sp.Ver) : Prop where
  c0 : w.cell? ⟨g, o, none⟩ = some (.int .i64 v.dot.1)
  c1 : w.cell? ⟨g, o + 1, none⟩ = some (.int .i64 v.dot.2)
  c2 : w.cell? ⟨g, o + 2, none⟩ = some (.slice A v.past.length cap)
  c3 : w.cell? ⟨g, o + 3, none⟩ = some (.bool v.dead)
  c4 : w.cell? ⟨g, o + 4, none⟩ = some (.string (strOf v.data))
theorem VerAt.ext {w w' : World} {g o : Nat} {A : Option Addr} {cap : Nat} {v : Sp.Ver} (h : VerAt w g o A cap v) (e : Ext w w') : VerAt w' g o A cap v :=
  ⟨e.cell h.c0, e.cell h.c1, e.cell h.c2, e.cell h.c3, e.cell h.c4⟩
theorem Vers.at {w : World} {A : Option Addr} {l : List Sp.Ver} (h : Vers w A l) (hn : 0 < l.length) : ∃ g o, A = some ⟨g, o, none⟩ ∧ ∀ k (h : k < l.length), ∃ A' cap', VerAt w g (o + k * 5) A' cap' l[k] ∧ Past w A' l[k] := by
  obtain ⟨m, rfl, h2, h3⟩ := h
  have hm : 0 < m.length := by simpa using hn
  obtain ⟨g, o, hA, hc⟩ := h2 (by intro e; have := versC_len m; rw [e] at this; simp at this; omega)
  refine ⟨g, o, hA, fun k hk => ?_⟩
  have hk' : k < m.length := by simpa using hk
  have hp := h3 m[k] (List.getElem_mem hk')
  have hget := fun i hi => versC_get m k i hk' hi
  simp only [List.getElem_map]
  refine ⟨m[k].1, m[k].2.1, ⟨?_, ?_, ?_, ?_, ?_⟩, hp⟩
  · exact hc _ _ ((hget 0 (by decide)).trans rfl)
  · rw [Nat.add_assoc]; exact hc _ _ ((hget 1 (by decide)).trans rfl)
  · rw [Nat.add_assoc]; exact hc _ _ ((hget 2 (by decide)).trans rfl)
  · rw [Nat.add_assoc]; exact hc _ _ ((hget 3 (by decide)).trans rfl)
  · rw [Nat.add_assoc]; exact hc _ _ ((hget 4 (by decide)).trans rfl)
/-- A version in a variable. -/
theorem isBlk.ver {w : World} {g t cap : Nat} {A : Option Addr} {v : Sp.Ver} (h : isBlk w g t (verC A cap v)) : VerAt w g 0 A cap v :=
  ⟨(h.cell 0).trans rfl, (h.cell 1).trans rfl, (h.cell 2).trans rfl, (h.cell 3).trans rfl, (h.cell 4).trans rfl⟩
end Go.Proofs.YteiblfcehlibpaaGreatDoor
namespace Go.Proofs.YteiblfcehlibpaaGreatDoor
open Go.RowKit
attribute [local go_sem] yUpon
/-- A slice of slices of dots. -/
def DD (w : World) (A : Option Addr) (ls : List (List Sp.Dot)) : Prop := ∃ cs : List Value, cs.length = ls.length ∧ Cells w A cs ∧ ∀ i (h : i < ls.length), ∃ A' cap', cs[i]? = some (.slice A' ls[i].length cap') ∧ Dots w A' ls[i] ∧ ls[i].length ≤ 140737488351232
theorem DD.ext {w w' : World} {A : Option Addr} {l : List (List Sp.Dot)} (h : DD w A l) (e : Ext w w') : DD w' A l := by
  obtain ⟨cs, h1, h2, h3⟩ := h
  exact ⟨cs, h1, h2.ext e, fun i hi => by obtain ⟨A', c', a, b, c⟩ := h3 i hi; exact ⟨A', c', a, b.ext e, c⟩⟩
theorem DD.at {w : World} {A : Option Addr} {ls : List (List Sp.Dot)} (h : DD w A ls) (k : Nat) (hk : k < ls.length) : ∃ g o A' cap', A = some ⟨g, o, none⟩ ∧ w.cell? ⟨g, o + k, none⟩ = some (.slice A' ls[k].length cap') ∧ Dots w A' ls[k] ∧ ls[k].length ≤ 140737488351232 := by
  obtain ⟨cs, h1, h2, h3⟩ := h
  obtain ⟨g, o, hA, hc⟩ := h2 (by rintro rfl; simp at h1; omega)
  obtain ⟨A', c', a, b, c⟩ := h3 k hk
  exact ⟨g, o, A', c', hA, hc _ _ a, b, c⟩
theorem DD.one {w : World} {l : List Sp.Dot} {A : Option Addr} {cap : Nat} {t : TypeId} (h : Dots w A l) (hl : l.length ≤ 140737488351232) : DD (w.alloc (.cells #[.slice A l.length cap] t)) (some ⟨w.heap.size, 0, none⟩) [l] :=
  ⟨[.slice A l.length cap], rfl, fun _ => ⟨_, _, rfl, fun i u hi => by rw [Nat.zero_add, cell_of_row _ w.heap.size i _ t (0, 0) (heap_alloc_new w _)]; simpa using hi⟩, fun i hi => by
    obtain rfl : i = 0 := by simpa using hi
    exact ⟨A, cap, rfl, h.ext (Ext.alloc _ _), hl⟩⟩
set_option maxRecDepth 100000 in
set_option maxHeartbeats 2000000 in
theorem vright1_calls (l : List Sp.Dot) (A : Option Addr) (cap : Nat) (w : World) (h : Dots w A l) (hl : l.length ≤ 140737488351232) :
    Calls Tryz.prog 235 #[.slice A l.length cap] w fun e w' => e = .returned (.bool (Sp.vcheck l != 0)) ∧ Ext w w' := by
  go_enter Tryz.func235, Tryz.ntmps235
  go_wp2_with (go_at_call 159; refine (vcheck_calls l A cap _ h hl).mono ?_; rintro e w1 ⟨rfl, hb1⟩)
  go_ret
  exact ⟨rfl, hb1⟩
/-- What a search by a test tells. -/
def ToldAt (is : Bool) (e : Ending) : Prop := ∃ r : Int, e = .returned (.int .i64 r) ∧ decide (0 ≤ r) = is
set_option maxRecDepth 100000 in
set_option maxHeartbeats 2000000 in
theorem vindex_calls (ls : List (List Sp.Dot)) (A : Option Addr) (cap : Nat) (w : World) (h : DD w A ls) (hl : ls.length ≤ 140737488351232) :
    Calls Tryz.prog 250 #[.slice A ls.length cap, .func (.func 235) #[] #[]] w fun e w' => ToldAt (ls.any fun l => Sp.vcheck l != 0) e ∧ Ext w w' := by
  go_enter Tryz.func250, Tryz.ntmps250
  go_wp2
  go_loopw [8] (fun v8 wr => ∃ k : Nat, k ≤ ls.length ∧ v8 = .int .i64 k ∧ (ls.any fun l => Sp.vcheck l != 0) = ((ls.drop k).any fun l => Sp.vcheck l != 0) ∧ Ext w wr) (fun v8 _ => ls.length - (intOf v8).toNat)
  case atStart => exact ⟨0, Nat.zero_le _, rfl, rfl, Ext.refl _⟩
  case round =>
    obtain ⟨k, hk, rfl, hv, hb⟩ := hrel
    by_cases hlt : k < ls.length
    · obtain ⟨g, o, A', c', rfl, c1, hd, hdl⟩ := (h.ext hb).at k hlt
      rw [List.drop_eq_getElem_cons hlt, List.any_cons] at hv
      have HV := Lib.hid hv
      clear hv
      go_wp2_with (go_at_call 235; refine (vright1_calls ls[k] A' c' _ hd hdl).mono ?_; rintro e w1 ⟨rfl, hb1⟩; have B1 := Lib.hid (hb.trans hb1); clear hb1)
      · go_ret
        exact ⟨⟨k, rfl, by rw [HV.out]; simp_all⟩, B1.out⟩
      · go_roundw
        case rel => exact ⟨k + 1, by omega, by go_num, by rw [HV.out]; simp_all, B1.out⟩
        case measure => simp [intOf]; omega
    · obtain rfl : k = ls.length := by omega
      have HV := Lib.hid hv
      clear hv
      go_wp2
      go_ret
      exact ⟨⟨-1, rfl, by rw [HV.out]; simp⟩, hb⟩
set_option maxRecDepth 100000 in
set_option maxHeartbeats 2000000 in
theorem vcontains_calls (ls : List (List Sp.Dot)) (A : Option Addr) (cap : Nat) (w : World) (h : DD w A ls) (hl : ls.length ≤ 140737488351232) :
    Calls Tryz.prog 234 #[.slice A ls.length cap, .func (.func 235) #[] #[]] w fun e w' => e = .returned (.bool (ls.any fun l => Sp.vcheck l != 0)) ∧ Ext w w' := by
  have C := Lib.hid (vindex_calls ls A cap w h hl)
  clear h
  go_enter Tryz.func234, Tryz.ntmps234
  go_wp2_with fail
  refine C.out.mono ?_
  rintro e w1 ⟨⟨r, rfl, hr⟩, hb1⟩
  have HR := Lib.hid hr
  clear hr
  go_wp2
  go_ret
  exact ⟨by rw [← HR.out]; rfl, hb1⟩
set_option maxRecDepth 100000 in
set_option maxHeartbeats 2000000 in
theorem vright_calls (ls : List (List Sp.Dot)) (A : Option Addr) (cap : Nat) (w : World) (h : DD w A ls) (hl : ls.length ≤ 140737488351232) :
    Calls Tryz.prog 219 #[.slice A ls.length cap] w fun e w' => e = .returned (.bool (!(ls.any fun l => Sp.vcheck l != 0))) ∧ Ext w w' := by
  go_enter Tryz.func219, Tryz.ntmps219
  go_wp2_with (go_at_call 234; refine (vcontains_calls ls A cap w h hl).mono ?_; rintro e w1 ⟨rfl, hb1⟩)
  go_ret
  exact ⟨rfl, hb1⟩
set_option maxRecDepth 100000 in
set_option maxHeartbeats 2000000 in
theorem vget_calls (l : List Sp.Dot) (A : Option Addr) (cap : Nat) (p : Int) (w : World) (h : Dots w A l) (hl : l.length ≤ 140737488351232) :
    Calls Tryz.prog 200 #[.slice A l.length cap, .int .i64 p] w fun e w' => e = .returned (.int .i64 (Sp.vget l p)) ∧ Ext w w' := by
  have R := Lib.hid (vright_calls [l] (some ⟨w.heap.size, 0, none⟩) 1 (w.alloc (.cells #[.slice A l.length cap] 73)) (DD.one h hl) (by simp))
  have FO := Lib.hid (Sp.vget_out l p)
  by_cases hv : Sp.vcheck l = 0
  · have FI := Lib.hid (show Sp.vget l p = Sp.vfind p l from if_neg (by simpa using hv))
    have C := Lib.hid fun W e hp => vfind_calls l A cap p W (h.ext e) hl hv hp
    have e1 : (!([l].any fun l => Sp.vcheck l != 0)) = true := by simp [hv]
    rw [e1] at R
    clear h hv e1
    go_enter Tryz.func200, Tryz.ntmps200
    go_wp2_with (first
      | (go_at_call 219; refine R.out.mono ?_; rintro e w1 ⟨rfl, hb1⟩; have B1 := Lib.hid ((Ext.alloc w _).trans hb1); clear hb1)
      | (go_at_call 220; refine (C.out _ B1.out (by omega)).mono ?_; rintro e w2 ⟨rfl, hb2⟩; have B2 := Lib.hid (B1.out.trans hb2); clear hb2))
    all_goals first
      | (go_ret; exact ⟨ret_int (FO.out (by omega)).symm, B1.out⟩)
      | (go_ret; exact ⟨ret_int FI.out.symm, B2.out⟩)
  · have FI := Lib.hid (show Sp.vget l p = 0 from if_pos hv)
    have e1 : (!([l].any fun l => Sp.vcheck l != 0)) = false := by simp [hv]
    rw [e1] at R
    clear h hv e1
    go_enter Tryz.func200, Tryz.ntmps200
    go_wp2_with (go_at_call 219; refine R.out.mono ?_; rintro e w1 ⟨rfl, hb1⟩; have B1 := Lib.hid ((Ext.alloc w _).trans hb1); clear hb1)
    go_ret
    exact ⟨ret_int FI.out.symm, B1.out⟩
set_option maxRecDepth 100000 in
set_option maxHeartbeats 2000000 in
theorem vhas_calls (l : List Sp.Dot) (A : Option Addr) (cap : Nat) (d : Sp.Dot) (w : World) (h : Dots w A l) (hl : l.length ≤ 140737488351232) :
    Calls Tryz.prog 160 #[.slice A l.length cap, dotV d] w fun e w' => e = .returned (.bool (Sp.vhas l d)) ∧ Ext w w' := by
  obtain ⟨W0, hW0⟩ : ∃ W0, W0 = w.alloc (.cells #[.int .i64 d.1, .int .i64 d.2] 72) := ⟨_, rfl⟩
  have HB := Lib.hid (show isBlk W0 w.heap.size 72 #[.int .i64 d.1, .int .i64 d.2] by rw [hW0]; exact box_at _ _ _)
  have E0 := Lib.hid (show Ext w W0 by rw [hW0]; exact Ext.alloc _ _)
  have G := Lib.hid fun W e => vget_calls l A cap d.1 W (h.ext (E0.out.trans e)) hl
  have HW := Lib.hid hW0.symm
  clear hW0 h
  by_cases h1 : 1 ≤ d.2
  · have b1 : decide (1 ≤ d.2) = true := decide_eq_true h1
    have F := Lib.hid (show Sp.vhas l d = decide (d.2 ≤ Sp.vget l d.1) by unfold Sp.vhas; rw [b1]; rfl)
    clear h1
    go_enter Tryz.func160, Tryz.ntmps160
    go_wp2_with fail
    rw [HW.out]
    refine wp_region_det (fun W => Ext W0 W) (by kernel_rfl) (by kernel_rfl) (Below.refl _ _).drew ?_
    repeat (first
      | (refine det_step (fun K hK => ?_)
         apply Exists.intro
         refine ⟨Or.inl ⟨rfl, fun W hS => ?_⟩, ?_⟩
         · replace hS : Ext W0 W := hS
           have z := HB.out.below hS; have f0 := (z.cell 0).trans rfl; have f1 := (z.cell 1).trans rfl
           go_simp
           first
           | exact rfl
           | exact ⟨rfl, hS⟩
           | (refine (G.out W hS).mono ?_; rintro e w1 ⟨rfl, hb1⟩; exact ⟨rfl, hS.trans hb1⟩)
         go_simp
         refine hK _ ?_
         clear hK K)
      | (refine det_step (fun K hK => ?_); refine det_no' rfl ?_; go_simp; refine hK _ ?_; clear hK K))
    refine det_nil ?_
    intro W9 hS
    replace hS : Ext _ W9 := hS
    go_wp2
    go_ret
    exact ⟨by rw [F.out]; rfl, E0.out.trans hS⟩
  · have b1 : decide (1 ≤ d.2) = false := decide_eq_false h1
    have F := Lib.hid (show Sp.vhas l d = false by unfold Sp.vhas; rw [b1]; rfl)
    clear h1
    go_enter Tryz.func160, Tryz.ntmps160
    go_wp2_with fail
    rw [HW.out]
    refine wp_region_det (fun W => Ext W0 W) (by kernel_rfl) (by kernel_rfl) (Below.refl _ _).drew ?_
    repeat (first
      | (refine det_step (fun K hK => ?_)
         apply Exists.intro
         refine ⟨Or.inl ⟨rfl, fun W hS => ?_⟩, ?_⟩
         · replace hS : Ext W0 W := hS
           have z := HB.out.below hS; have f0 := (z.cell 0).trans rfl; have f1 := (z.cell 1).trans rfl
           go_simp
           first
           | exact rfl
           | exact ⟨rfl, hS⟩
           | (fail)
         go_simp
         refine hK _ ?_
         clear hK K)
      | (refine det_step (fun K hK => ?_); refine det_no' rfl ?_; go_simp; refine hK _ ?_; clear hK K))
    refine det_nil ?_
    intro W9 hS
    replace hS : Ext _ W9 := hS
    go_wp2
    go_ret
    exact ⟨by rw [F.out]; rfl, E0.out.trans hS⟩
end Go.Proofs.YteiblfcehlibpaaGreatDoor
namespace Go.Proofs.YteiblfcehlibpaaGreatDoor
open Go.RowKit
end Go.Proofs.YteiblfcehlibpaaGreatDoor
namespace Go.Proofs.YteiblfcehlibpaaGreatDoor
open Go.RowKit
attribute [local go_sem] yUpon
namespace Sp
end Sp
end Go.Proofs.YteiblfcehlibpaaGreatDoor
namespace Go.Proofs.YteiblfcehlibpaaGreatDoor
namespace Sp
/-- Why a version may not be. -/
def vercheck (v : Ver) : Int :=
  if dot v.dot ≠ 0 then dot v.dot else if vcheck v.past ≠ 0 then vcheck v.past else if vhas v.past v.dot = true then 8 else if 48 < v.data.length then 2 else if v.dead = true ∧ v.data ≠ [] then 7 else 0
def covers (a b : Ver) : Bool := vhas a.past b.dot
def covered (l : List Ver) (v : Ver) : Bool := l.any fun w => covers w v
/-- Each version may be, and their peers rise. -/
def lgo : Option Int → List Ver → Int
  | _, [] => 0
  | last, v :: r => if vercheck v ≠ 0 then vercheck v else if (∃ x, last = some x ∧ v.dot.1 ≤ x) then 8 else lgo (some v.dot.1) r
instance (last : Option Int) (d : Int) : Decidable (∃ x, last = some x ∧ d ≤ x) := by
  cases last with
  | none => exact isFalse (by rintro ⟨_, h, _⟩; cases h)
  | some y => exact decidable_of_iff (d ≤ y) ⟨fun h => ⟨y, rfl, h⟩, by rintro ⟨x, h, h'⟩; cases h; exact h'⟩
def leaf (l : List Ver) : Int := if 64 < l.length then 2 else if lgo none l ≠ 0 then lgo none l else if (l.any fun v => covered l v) = true then 7 else 0
def live (l : List Ver) : List Ver := l.filter fun v => !v.dead
end Sp
end Go.Proofs.YteiblfcehlibpaaGreatDoor
