/- Bytes in a block, turned into a text. What lies in memory: versions. Leaves: plain. What a number's bytes are: plain. Walks: names, pieces and patterns, the program's and the reference's. Walks: a number that is read, and the reference's. Walks: a number that is written, the reference's. A range over a function that tells a list, and that writes a variable of its own meanwhile; the body goes through all of it. -/
import Derived.Laws.BytesArg
import Derived.Test.YtmlkachfahabnaaGreatDoorTA01
import Derived.Laws.BitsLemmas
import Derived.Test.YtmlkachfahabnaaGreatDoorShelf
import Derived.Deep.RegionWith
import Derived.RangeFuncNested
import Derived.RangeFuncBound
import Derived.RangeFuncCalls
import Derived.RangeFuncLeaves
namespace Go.Proofs.YtmlkachfahabnaaGreatDoor

/-- A byte as a cell holds it. -/
def byteV (c : UInt8) : Value := .int .u8 c.toNat
theorem conv_cells {P : Program} {w : World} {src e dst : TypeId} (hs : P.underlying src = some (.slice e)) (he : P.underlying e = some (.int .u8)) (hd : P.underlying dst = some .string) (g o cap : Nat) (l : List UInt8)
    (hc : ∀ i, (h : i < l.length) → w.cell? ⟨g, o + i, none⟩ = some (byteV l[i])) : (convert src dst (.slice (some ⟨g, o, none⟩) l.length cap)).run P w = .ok (.string ⟨l.toArray⟩) w := by
  have := run_convert_bytes_arg (P := P) w src e hs he g o l.length cap (l.map fun c => (c.toNat : Int)) (by simp) (fun i hi => by
    rw [hc i hi]; simp [byteV, List.getD, hi]) dst hd
  rw [this]
  congr 3
  unfold strOfNums
  congr 2
  rw [List.map_map]
  conv => rhs; rw [← List.map_id l]
  congr 1
  funext c
  simp

/-- The text of such bytes. -/
def strOf (l : List UInt8) : ByteArray := ⟨l.toArray⟩
@[simp] theorem strOf_data (l : List UInt8) : (strOf l).data.toList = l := by simp [strOf]
theorem strOf_self (s : ByteArray) : strOf s.data.toList = s := by simp [strOf]
theorem strOf_append (s : ByteArray) (l : List UInt8) : s ++ strOf l = strOf (s.data.toList ++ l) := by
  apply ByteArray.ext
  simp [strOf, ByteArray.data_append]
theorem strOf_size (l : List UInt8) : (strOf l).size = l.length := by simp [strOf, ByteArray.size]
theorem strOf_toList (l : List UInt8) : (strOf l).toList = l := by rw [toList_data, strOf_data]
/-- A conversion of bytes in a block to a text. -/
theorem conv_new {P : Program} {ops : Array Oper} {rest : List Oper} {o : Oper} {a : Act} {Q : Exit → Act → World → Prop} {w : World} {src e dst : TypeId} {x : Operand} (ho : o.op = .convert src dst x) (hgd : o.guard = none)
    (hs : P.underlying src = some (.slice e)) (he : P.underlying e = some (.int .u8)) (hd : P.underlying dst = some .string) (g off n cap : Nat) (l : List UInt8) (hx : a.eval x = .slice (some ⟨g, off, none⟩) n cap) (hn : n = l.length)
    (hc : ∀ i, (h : i < l.length) → w.cell? ⟨g, off + i, none⟩ = some (byteV l[i])) (h : wpList P ops Q rest (a.put o.dst (.string (strOf l))) w) : wpList P ops Q (o :: rest) a w := by
  subst hn
  refine wpList_plain hgd fun K hK => ?_
  unfold Oper.wp
  have hr : (execOp a.eval o).run P w = .ok (.value (.string (strOf l))) w := by
    simp only [execOp, ho, hx]
    simp [conv_cells (P := P) (w := w) hs he hd g off cap l hc, strOf]
  rw [hr]
  exact hK _ _ h

end Go.Proofs.YtmlkachfahabnaaGreatDoor
namespace Go.Proofs.YtmlkachfahabnaaGreatDoor
open Go.RowKit
theorem box_at (w : World) (cs : Array Value) (t : TypeId) : isBlk (w.alloc (.cells cs t)) w.heap.size t cs := heap_alloc_new _ _
/-- A version's five cells. -/
abbrev verC (A : Option Addr) (cap : Nat) (v : Sp.Ver) : Array Value := #[.int .i64 v.dot.1, .int .i64 v.dot.2, .slice A v.past.length cap, .bool v.dead, .string (strOf v.data)]
abbrev verV (A : Option Addr) (cap : Nat) (v : Sp.Ver) : Value := .agg (verC A cap v)
/-- Where a version's vector lies. -/
def Past (w : World) (A : Option Addr) (v : Sp.Ver) : Prop := Dots w A v.past ∧ v.past.length ≤ 140737488351232
theorem Past.ext {w w' : World} {A : Option Addr} {v : Sp.Ver} (h : Past w A v) (e : Ext w w') : Past w' A v := ⟨h.1.ext e, h.2⟩
/-- Versions, cell by cell; P: where each one's vector lies. -/
def versC : List (Option Addr × Nat × Sp.Ver) → List Value
  | [] => []
  | x :: r => (verC x.1 x.2.1 x.2.2).toList ++ versC r
theorem versC_len (l : List (Option Addr × Nat × Sp.Ver)) : (versC l).length = l.length * 5 := by
  induction l with
  | nil => rfl
  | cons d r ih => simp only [versC, List.length_append, ih, List.length_cons]; simp; omega
theorem versC_append (l m : List (Option Addr × Nat × Sp.Ver)) : versC (l ++ m) = versC l ++ versC m := by
  induction l with
  | nil => rfl
  | cons d r ih => simp [versC, ih]
theorem versC_get (l : List (Option Addr × Nat × Sp.Ver)) (k i : Nat) (h : k < l.length) (hi : i < 5) : (versC l)[k * 5 + i]? = (verC l[k].1 l[k].2.1 l[k].2.2)[i]? := by
  induction l generalizing k with
  | nil => simp at h
  | cons d r ih =>
    cases k with
    | zero => rw [versC, List.getElem?_append_left (by simp; omega)]; simp
    | succ k =>
      have := ih k (by simpa using h)
      rw [versC, List.getElem?_append_right (by simp; omega)]
      simp only [List.getElem_cons_succ]
      rw [← this]
      congr 1
      simp; omega
/-- A slice of versions. -/
def Vers (w : World) (A : Option Addr) (l : List Sp.Ver) : Prop := ∃ m : List (Option Addr × Nat × Sp.Ver), m.map (·.2.2) = l ∧ Cells w A (versC m) ∧ ∀ x ∈ m, Past w x.1 x.2.2
theorem Vers.ext {w w' : World} {A : Option Addr} {l : List Sp.Ver} (h : Vers w A l) (e : Ext w w') : Vers w' A l := by
  obtain ⟨m, h1, h2, h3⟩ := h
  exact ⟨m, h1, h2.ext e, fun x hx => (h3 x hx).ext e⟩
theorem Vers.nil (w : World) (A : Option Addr) : Vers w A [] := ⟨[], rfl, Cells.nil _ _, fun _ h => by cases h⟩
/-- The cells of the version at a place. -/
structure VerAt (w : World) (g o : Nat) (A : Option Addr) (cap : Nat) (v : Sp.Ver) : Prop where
  c0 : w.cell? ⟨g, o, none⟩ = some (.int .i64 v.dot.1)
  c1 : w.cell? ⟨g, o + 1, none⟩ = some (.int .i64 v.dot.2)
  c2 : w.cell? ⟨g, o + 2, none⟩ = some (.slice A v.past.length cap)
  c3 : w.cell? ⟨g, o + 3, none⟩ = some (.bool v.dead)
  c4 : w.cell? ⟨g, o + 4, none⟩ = some (.string (strOf v.data))
theorem VerAt.ext {w w' : World} {g o : Nat} {A : Option Addr} {cap : Nat} {v : Sp.Ver} (h : VerAt w g o A cap v) (e : Ext w w') : VerAt w' g o A cap v :=
  ⟨e.cell h.c0, e.cell h.c1, e.cell h.c2, e.cell h.c3, e.cell h.c4⟩
theorem Vers.at {w : World} {A : Option Addr} {l : List Sp.Ver} (h : Vers w A l) (hn : 0 < l.length) : ∃ g o, A = some ⟨g, o, none⟩ ∧ ∀ k (h : k < l.length), ∃ A' cap', VerAt w g (o + k * 5) A' cap' l[k] ∧ Past w A' l[k] := by
  obtain ⟨m, rfl, h2, h3⟩ := h
  have hm : 0 < m.length := by simpa using hn
  obtain ⟨g, o, hA, hc⟩ := h2 (by intro e; have := versC_len m; rw [e] at this; simp at this; omega)
  refine ⟨g, o, hA, fun k hk => ?_⟩
  have hk' : k < m.length := by simpa using hk
  have hp := h3 m[k] (List.getElem_mem hk')
  have hget := fun i hi => versC_get m k i hk' hi
  simp only [List.getElem_map]
  refine ⟨m[k].1, m[k].2.1, ⟨?_, ?_, ?_, ?_, ?_⟩, hp⟩
  · exact hc _ _ ((hget 0 (by decide)).trans rfl)
  · rw [Nat.add_assoc]; exact hc _ _ ((hget 1 (by decide)).trans rfl)
  · rw [Nat.add_assoc]; exact hc _ _ ((hget 2 (by decide)).trans rfl)
  · rw [Nat.add_assoc]; exact hc _ _ ((hget 3 (by decide)).trans rfl)
  · rw [Nat.add_assoc]; exact hc _ _ ((hget 4 (by decide)).trans rfl)
/-- A version in a variable. -/
theorem isBlk.ver {w : World} {g t cap : Nat} {A : Option Addr} {v : Sp.Ver} (h : isBlk w g t (verC A cap v)) : VerAt w g 0 A cap v :=
  ⟨(h.cell 0).trans rfl, (h.cell 1).trans rfl, (h.cell 2).trans rfl, (h.cell 3).trans rfl, (h.cell 4).trans rfl⟩
end Go.Proofs.YtmlkachfahabnaaGreatDoor
namespace Go.Proofs.YtmlkachfahabnaaGreatDoor
namespace Sp
/-- Why a version may not be. -/
def vercheck (v : Ver) : Int :=
  if dot v.dot ≠ 0 then dot v.dot else if vcheck v.past ≠ 0 then vcheck v.past else if vhas v.past v.dot = true then 8 else if 48 < v.data.length then 2 else if v.dead = true ∧ v.data ≠ [] then 7 else 0
def covers (a b : Ver) : Bool := vhas a.past b.dot
def covered (l : List Ver) (v : Ver) : Bool := l.any fun w => covers w v
/-- Each version may be, and their peers rise. -/
def lgo : Option Int → List Ver → Int
  | _, [] => 0
  | last, v :: r => if vercheck v ≠ 0 then vercheck v else if (∃ x, last = some x ∧ v.dot.1 ≤ x) then 8 else lgo (some v.dot.1) r
instance (last : Option Int) (d : Int) : Decidable (∃ x, last = some x ∧ d ≤ x) := by
  cases last with
  | none => exact isFalse (by rintro ⟨_, h, _⟩; cases h)
  | some y => exact decidable_of_iff (d ≤ y) ⟨fun h => ⟨y, rfl, h⟩, by rintro ⟨x, h, h'⟩; cases h; exact h'⟩
def leaf (l : List Ver) : Int := if 64 < l.length then 2 else if lgo none l ≠ 0 then lgo none l else if (l.any fun v => covered l v) = true then 7 else 0
def live (l : List Ver) : List Ver := l.filter fun v => !v.dead
end Sp
end Go.Proofs.YtmlkachfahabnaaGreatDoor
namespace Go.Proofs.YtmlkachfahabnaaGreatDoor
namespace Sp
/-- A number's bytes, the lowest first. -/
def cput (n : Nat) : List UInt8 := if n < 128 then [UInt8.ofNat n] else UInt8.ofNat (n % 128 + 128) :: cput (n / 128)
termination_by n
decreasing_by omega
def put (n : Int) : List UInt8 := if 0 ≤ n ∧ n ≤ 1073741824 then cput n.toNat else []
/-- The number of bytes. -/
def num : List UInt8 → Nat
  | [] => 0
  | b :: l => b.toNat % 128 + 128 * num l
/-- The place of the first byte below 128, from place i on, among so many. -/
def cend (l : List UInt8) : Nat → Nat → Option Nat
  | 0, _ => none
  | f + 1, i => match l[i]? with
    | none => none
    | some b => if b.toNat < 128 then some i else cend l f (i + 1)
/-- The number that bytes begin with, how many bytes it has, or what is wrong. -/
def take (l : List UInt8) : Nat × Nat × Int := match cend l 5 0 with
  | none => if l.length < 5 then (0, 0, 5) else (0, 0, 2)
  | some i => if l[i]? = some 0 ∧ 0 < i then (0, 0, 7) else if 1073741824 < num (l.take (i + 1)) then (0, 0, 2) else (num (l.take (i + 1)), i + 1, 0)
theorem cput_len (n : Nat) (h : n ≤ 1073741824) : (cput n).length ≤ 5 := by
  rw [cput]; split
  · simp
  · rw [cput]; split
    · simp
    · rw [cput]; split
      · simp
      · rw [cput]; split
        · simp
        · rw [cput]; split
          · simp
          · exfalso; omega
theorem cput_ne (n : Nat) : cput n ≠ [] := by rw [cput]; split <;> simp
theorem put_ne {n : Int} : put n ≠ [] ↔ 0 ≤ n ∧ n ≤ 1073741824 := by
  unfold put; split
  · simp [cput_ne, *]
  · simp [*]
theorem put_len (n : Int) : (put n).length ≤ 5 := by
  unfold put; split
  · exact cput_len _ (by omega)
  · simp
end Sp
end Go.Proofs.YtmlkachfahabnaaGreatDoor
namespace Go.Proofs.YtmlkachfahabnaaGreatDoor
open Go.RowKit

end Go.Proofs.YtmlkachfahabnaaGreatDoor
namespace Go.Proofs.YtmlkachfahabnaaGreatDoor
open Go.RowKit
theorem right_calls (n : Int) (w : World) : Calls Tryz.prog 172 #[.int .i64 n] w fun e w' => e = .returned (.bool (decide (0 ≤ n ∧ n ≤ 1073741824))) ∧ w = w' := by
  by_cases h0 : 0 ≤ n
  · have e1 : decide (0 ≤ n) = true := decide_eq_true h0
    have F := Lib.hid (show decide (0 ≤ n ∧ n ≤ 1073741824) = decide (n ≤ 1073741824) by rw [decide_eq_decide]; omega)
    clear h0
    go_enter Tryz.func172, Tryz.ntmps172
    go_wp2_with fail
    go_ret
    exact ⟨ret_bool F.out.symm, rfl⟩
  · have e1 : decide (0 ≤ n) = false := decide_eq_false h0
    have F := Lib.hid (show decide (0 ≤ n ∧ n ≤ 1073741824) = false by rw [decide_eq_false_iff_not]; omega)
    clear h0
    go_enter Tryz.func172, Tryz.ntmps172
    go_wp2_with fail
    go_ret
    exact ⟨ret_bool F.out.symm, rfl⟩
end Go.Proofs.YtmlkachfahabnaaGreatDoor
namespace Go.Proofs.YtmlkachfahabnaaGreatDoor
open Go.RowKit
/-- A byte in a new block, turned into a text, at once .. -/
theorem conv_one (c : UInt8) (W : World) : (convert 84 9 (.slice (some ⟨W.heap.size, 0, none⟩) 1 1)).run Tryz.prog (W.alloc (.cells #[.int .u8 c.toNat] 5 (0, 0))) = .ok (.string (strOf [c])) (W.alloc (.cells #[.int .u8 c.toNat] 5 (0, 0))) :=
  conv_cells Tryz.underlying84 Tryz.underlying5 Tryz.underlying9 W.heap.size 0 1 [c] (fun i hi => by
    obtain rfl : i = 0 := by simpa using hi
    rw [cell_of_row _ W.heap.size 0 _ _ (0, 0) (heap_alloc_new W _)]; rfl)
theorem conv_one' (c : UInt8) (W : World) : (convert 84 9 (.slice (some ⟨W.heap.size, 0, none⟩) 1 1)).run Tryz.prog (W.alloc (.cells #[.int .u8 c.toNat] 5 (0, 0))).drew = .ok (.string (strOf [c])) (W.alloc (.cells #[.int .u8 c.toNat] 5 (0, 0))).drew :=
  conv_cells Tryz.underlying84 Tryz.underlying5 Tryz.underlying9 W.heap.size 0 1 [c] (fun i hi => by
    obtain rfl : i = 0 := by simpa using hi
    exact (cell_of_row (W.alloc _) W.heap.size 0 _ _ (0, 0) (heap_alloc_new W _)).trans rfl)
/-- .. and behind a call. -/
theorem conv_later (c : UInt8) (W W1 : World) (hb : Below (W.alloc (.cells #[.int .u8 c.toNat] 5 (0, 0))).drew.heap.size (W.alloc (.cells #[.int .u8 c.toNat] 5 (0, 0))).drew W1) :
    (convert 84 9 (.slice (some ⟨W.heap.size, 0, none⟩) 1 1)).run Tryz.prog W1 = .ok (.string (strOf [c])) W1 :=
  conv_cells Tryz.underlying84 Tryz.underlying5 Tryz.underlying9 W.heap.size 0 1 [c] (fun i hi => by
    obtain rfl : i = 0 := by simpa using hi
    exact cellKept (W := (W.alloc (.cells #[.int .u8 c.toNat] 5 (0, 0))).drew) ((cell_of_row (W.alloc (.cells #[.int .u8 c.toNat] 5 (0, 0))) W.heap.size 0 _ _ (0, 0) (heap_alloc_new W _)).trans (by simp [byteV])) hb)
set_option maxRecDepth 100000 in
set_option maxHeartbeats 2000000 in
theorem rput_small (n : Nat) (w : World) (h : n < 128) : Calls Tryz.prog 86 #[.int .i64 n] w fun e w' => e = .returned (.string (strOf (Sp.cput n))) ∧ Below w.heap.size w w' := by
  obtain ⟨c, hc⟩ : ∃ c : UInt8, c = UInt8.ofNat n := ⟨_, rfl⟩
  have F := Lib.hid (show strOf [c] = strOf (Sp.cput n) by rw [Sp.cput.eq_def n, if_pos h, hc])
  have t3 : IntKind.u8.wrap (n : Int) = (c.toNat : Int) := by rw [IntKind.wrap_u8, hc]; simp
  have e1 : decide ((n : Int) < 128) = true := by rw [decide_eq_true_iff]; omega
  have e2 : decide ((n : Int) < 0) = false := by simp
  have e3 : decide ((1073741824 : Int) < (n : Int)) = false := by rw [decide_eq_false_iff_not]; omega
  have cv0 := conv_one c
  clear hc h
  go_enter Tryz.func86, Tryz.ntmps86
  go_wp2_with fail
  go_ret
  exact ⟨by rw [← F.out]; rfl, (Below.refl _ _).alloc (Nat.le_refl _) _⟩
set_option maxRecDepth 100000 in
set_option maxHeartbeats 2000000 in
theorem rput_nat : ∀ (m n : Nat) (w : World), n ≤ m → n ≤ 1073741824 →
    Calls Tryz.prog 86 #[.int .i64 n] w fun e w' => e = .returned (.string (strOf (Sp.cput n))) ∧ Below w.heap.size w w' := by
  intro m
  induction m with
  | zero =>
    intro n w hn hb
    exact rput_small n w (by omega)
  | succ m ih =>
    intro n w hn hb
    by_cases h : n < 128
    · exact rput_small n w h
    · have e1 : decide ((n : Int) < 128) = false := by rw [decide_eq_false_iff_not]; omega
      obtain ⟨c, hc⟩ : ∃ c : UInt8, c = UInt8.ofNat (n % 128 + 128) := ⟨_, rfl⟩
      have F := Lib.hid (show strOf [c] ++ strOf (Sp.cput (n / 128)) = strOf (Sp.cput n) by rw [strOf_append, strOf_data, Sp.cput.eq_def n, if_neg h, hc]; rfl)
      have IH := Lib.hid (show ∀ W : World, Calls Tryz.prog 86 #[.int .i64 ((n : Int) / 128)] W fun e w' => e = .returned (.string (strOf (Sp.cput (n / 128)))) ∧ Below W.heap.size W w' by
        intro W; rw [show (n : Int) / 128 = ((n / 128 : Nat) : Int) by omega]; exact ih (n / 128) W (by omega) (by omega))
      have t1 : (n : Int).tmod 128 = (n : Int) % 128 := Int.tmod_eq_emod_of_nonneg (Int.natCast_nonneg _)
      have t2 : IntKind.i64.wrap ((n : Int) % 128 + 128) = (n : Int) % 128 + 128 := IntWalk.i64_in _ (by omega)
      have t3 : IntKind.u8.wrap ((n : Int) % 128 + 128) = (c.toNat : Int) := by rw [IntKind.wrap_u8, hc]; simp
      have t4 : IntKind.i64.wrap ((n : Int) / 128) = (n : Int) / 128 := IntWalk.i64_in _ (by omega)
      have t5 : (strOf [c]).size = 1 := strOf_size _
      have t6 : (strOf (Sp.cput (n / 128))).size ≤ 5 := by rw [strOf_size]; exact Sp.cput_len _ (by omega)
      have e2 : decide ((n : Int) < 0) = false := by simp
      have e3 : decide ((1073741824 : Int) < (n : Int)) = false := by rw [decide_eq_false_iff_not]; omega
      have cv0 := conv_one c
      have cv1 := conv_one' c
      clear hc
      go_enter Tryz.func86, Tryz.ntmps86
      go_wp2_with fail
      go_region_with (first
        | (go_at_call 86; refine (IH.out _).mono ?_; rintro e w1 ⟨rfl, hb1⟩; first | have cv2 := conv_later _ _ _ hb1 | skip))
      all_goals
        go_wp2_with fail
        go_ret
        refine ⟨by rw [← F.out]; rfl, ?_⟩
        first
        | exact hb1.alloc hb1.size _
        | exact (((Below.refl _ w).alloc (Nat.le_refl _) (.cells #[.int .u8 c.toNat] 5 (0, 0))).drew).trans (hb1.mono (by simp))
        | exact ((Below.refl _ w).drew.trans hb1).alloc hb1.size _
/-- A number, whatever it is. -/
theorem rput_calls (n : Int) (w : World) : Calls Tryz.prog 86 #[.int .i64 n] w fun e w' => e = .returned (.string (strOf (Sp.put n))) ∧ Below w.heap.size w w' := by
  by_cases h : 0 ≤ n ∧ n ≤ 1073741824
  · have := rput_nat n.toNat n.toNat w (Nat.le_refl _) (by omega)
    rw [show ((n.toNat : Nat) : Int) = n by omega] at this
    rwa [show Sp.put n = Sp.cput n.toNat by unfold Sp.put; rw [if_pos h]]
  · have F := Lib.hid (show strOf (Sp.put n) = strOf [] by unfold Sp.put; rw [if_neg h])
    by_cases h0 : n < 0
    · have e1 : decide (n < 0) = true := decide_eq_true h0
      clear h h0
      go_enter Tryz.func86, Tryz.ntmps86
      go_wp2_with fail
      go_ret
      exact ⟨by rw [F.out]; rfl, Below.refl _ _⟩
    · have e1 : decide (n < 0) = false := decide_eq_false h0
      have e2 : decide (1073741824 < n) = true := decide_eq_true (by omega)
      clear h h0
      go_enter Tryz.func86, Tryz.ntmps86
      go_wp2_with fail
      go_ret
      exact ⟨by rw [F.out]; rfl, Below.refl _ _⟩
end Go.Proofs.YtmlkachfahabnaaGreatDoor
namespace Go.Proofs.YtmlkachfahabnaaGreatDoor
open Go.RowKit
/-- A block is as it was. -/
def SameAt (b : Nat) (W W' : World) : Prop := W'.heap[b]? = W.heap[b]?
theorem range_list {F : Fence} {n : Nat} {P : Program} {α : Type} {g : Operand} {ps : Array Tmp} {assign body : Code} {Q : Exit → Act → World → Prop} {a : Act} {w : World}
    (hro : F.round = none) (h1 : 1 ≤ n) {gf : Nat} {lb : Array Value} (hg : a.eval g = .func (.func gf) #[] lb) (hFg : F.fn gf) (eg : ∀ args w, (callFunc gf args).run P w = .ok (.enter gf args) w)
    (encs : α → Array Value) (xs : List α) (hps : ∀ x, (encs x).size = ps.size) (Bn : Nat) (hBn : Bn < w.heap.size)
    (hit : ∀ (l : Nat) (J : Nat → World → Prop) (W : World), Below w.heap.size w W → (∀ i W v, J i W → J i (W.setCell ⟨Bn, 0, none⟩ v)) → (∀ i W, J i W → J i W.drew) →
      (∀ i (hi : i < xs.length) (W1 : World), J i W1 → YieldAt F (n - 1 - 1) P l (encs xs[i]) W1 fun e W' => e = .returned (.bool true) ∧ J (i + 1) W' ∧ SameAt Bn W1 W') → J 0 W →
      CallsIn F (n - 1) P gf (#[.func (.yield l) #[] #[]] ++ lb) W fun e W' => (∃ v, e = .returned v) ∧ J xs.length W')
    (I : Nat → World → Prop) (hI : OwnFrom w.heap.size I) (hIc : ∀ i W v, I i W → I i (W.setCell ⟨Bn, 0, none⟩ v)) (hId : ∀ i W, I i W → I i W.drew) (h0 : I 0 w) (a₁ : α → Act)
    (hassign : ∀ (l : Nat) (x : α) (W : World) (K : Act → World → Prop), K (a₁ x) W →
      assign.wpIn (F.inRound l) (n - 1 - 1) P (Exit.then K (fun _ _ _ => False)) { tmps := (ps.zip (encs x)).foldl (fun t (p, v) => t.setIfInBounds p v) a.tmps, defers := [] } W)
    (hbody : ∀ (l i : Nat) (hi : i < xs.length) (W : World), I i W → body.wpIn (F.inRound l) (n - 1 - 1) P (fun e _ W' => e = .normal ∧ KeepsOthers W W' ∧ SameAt Bn W W' ∧ I (i + 1) W') (a₁ xs[i]) W)
    (hdone : ∀ (D : Nat) (W : World), w.heap.size ≤ D → I xs.length W → W.heap[D]? = some (.deferred (some [])) → Q .normal { a with defers := { target := .collected D, args := #[] } :: a.defers } W) :
    (Code.rangeFunc g ps assign body).wpIn F n P Q a w := by
  refine wpIn_rangeFunc fun fn hfn => ?_
  rw [hro]
  obtain ⟨rec, hrec⟩ : ∃ rec : LoopState → Option Code → Loop, rec = fun st pe => { state := st, pending := pe, fn, tmps := a.tmps, params := ps, assign, body, defers := w.heap.size } := ⟨_, rfl⟩
  obtain ⟨D, hD⟩ : ∃ D, D = w.heap.size := ⟨_, rfl⟩
  obtain ⟨L, hL⟩ : ∃ L, L = w.heap.size + 1 := ⟨_, rfl⟩
  obtain ⟨W1, hW1⟩ : ∃ W1, (w.alloc (.deferred (some []))).alloc (.loop (rec .ready none)) = W1 := ⟨_, rfl⟩
  have hs0 : (w.alloc (.deferred (some []))).heap.size = L := by rw [hL]; simp
  have hl1 : W1.heap[L]? = some (.loop (rec .ready none)) := by rw [← hW1, ← hs0]; exact World.alloc_heap_new _ _
  have hd1 : W1.heap[D]? = some (.deferred (some [])) := by
    rw [← hW1, hD]; exact (Below.heap_alloc _ _ _ (by simp)).trans (World.alloc_heap_new w _)
  have hi1 : I 0 W1 := by rw [← hW1]; exact hI.alloc _ (hI.alloc _ h0)
  have hb1 : Below w.heap.size w W1 := by rw [← hW1]; exact ((Below.refl _ w).alloc (Nat.le_refl _) _).alloc (by simp) _
  refine ⟨L, [{ target := .collected w.heap.size, args := #[] }], W1, { target := .fn (.func gf) lb, args := #[.func (.yield L) #[] #[]] }, W1, gf, #[.func (.yield L) #[] #[]] ++ lb, W1, ?_, ?_, ?_, ?_, fun _ => h1, ?_⟩
  · rw [← hW1, hrec, hL]; exact run_enterLoop_outer _ _ _ _ _
  · simp only [resolve, hg]
    simp [go_sem]
  · intro f' hf'; simp [Target.leads] at hf'; subst hf'; exact hFg
  · simp [invoke, go_sem, eg]
  · have farL : Bn ≠ L := by omega
    have farD : Bn ≠ D := by omega
    refine (hit L (fun i W => I i W ∧ W.heap[L]? = some (.loop (rec .ready none)) ∧ W.heap[D]? = some (.deferred (some []))) W1 hb1
      (fun i W v h => ⟨hIc i W v h.1, by rw [Below.heap_setCell _ _ _ _ (Ne.symm farL)]; exact h.2.1, by rw [Below.heap_setCell _ _ _ _ (Ne.symm farD)]; exact h.2.2⟩)
      (fun i W h => ⟨hId i W h.1, h.2.1, h.2.2⟩) ?_ ⟨hi1, hl1, hd1⟩).mono ?_
    · rintro i hi W ⟨hiW, hl, hd⟩
      have hlt : L < W.heap.size := (Array.getElem?_eq_some_iff.1 hl).1
      have hy := run_yield (P := P) (args := encs xs[i]) hl (by rw [hrec]; exact hps xs[i])
      rw [hrec] at hy
      refine ⟨fn, _, assign, body, hy, roundIn_of_wpIn hfn (hassign _ xs[i] W _ ⟨_, run_beginRound hl (by rw [hrec]), ?_⟩)⟩
      obtain ⟨busy, hbusy⟩ : ∃ busy : Loop, busy = { rec .ready none with state := .busy } := ⟨_, rfl⟩
      rw [← hbusy]
      have hl2 : (W.putObj L (.loop busy)).heap[L]? = some (.loop busy) := World.putObj_heap_same hlt
      have hd2 : (W.putObj L (.loop busy)).heap[D]? = some (.deferred (some [])) := (World.putObj_heap_other (by omega)).trans hd
      refine wpIn_mono (hbody _ i hi _ (hI.putObj _ hiW (by omega) hl rfl)) ?_
      rintro e a3 W3 ⟨rfl, hk3, hs3, hi3⟩
      have hl3 := hk3.same _ _ hl2 rfl
      have hd3 := hk3.same _ _ hd2 rfl
      have hr := run_endRound (P := P) (none : Option Code) hl3
      rw [hbusy, hrec] at hr
      refine ⟨_, _, hr, rfl, ⟨hI.putObj _ hi3 (by omega) hl3 rfl, ?_, (World.putObj_heap_other (by omega)).trans hd3⟩, ?_⟩
      · rw [hrec]; exact World.putObj_heap_same (Array.getElem?_eq_some_iff.1 hl3).1
      · exact (World.putObj_heap_other (by omega)).trans (hs3.trans (World.putObj_heap_other (by omega)))
    · rintro e W2 ⟨⟨v, rfl⟩, hi, hl, hd⟩
      refine ⟨none, _, by have := run_endLoop (P := P) hl (by rw [hrec]; simp); rw [hrec] at this; exact this, ?_⟩
      rw [← hD]
      exact hdone D _ (by omega) (hI.putObj _ hi (by omega) hl rfl) ((World.putObj_heap_other (by omega)).trans hd)
end Go.Proofs.YtmlkachfahabnaaGreatDoor
