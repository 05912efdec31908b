/- Walks: vectors: dots, and what is no vector. Walks: vectors: how many changes of a peer. Bytes in a block, turned into a text. What lies in memory: versions. Walks: vectors: get, has. What '==' says of two dots. Walks: vectors: the same. Leaves: plain. Appending a slice, whatever it is, to a slice of the call's own; the append of a make. Walks: versions: check, covers, and what looks for one. Walks: versions: who covers whom. -/
import Derived.Laws.BytesArg
import Derived.Laws.StructEq
import Derived.Lib.AppendZerosOnto
import Derived.Lib.AppendZeros
import Derived.Laws.OwnMore
import Derived.Test.YtmlfnidckfeebaaGreatDoorRF001
namespace Go.Proofs.YtmlfnidckfeebaaGreatDoor
open Go.RowKit
set_option maxRecDepth 100000 in
set_option maxHeartbeats 2000000 in
theorem vdot_calls (d : Sp.Dot) (w : World) : Calls Tryz.prog 209 #[dotV d] w fun e w' => e = .returned (.int .i64 (Sp.dot d)) ∧ Ext w w' := by
  go_enter Tryz.func209, Tryz.ntmps209
  go_wp2
  all_goals
    go_ret
    refine ⟨ret_int ?_, Ext.alloc _ _⟩
    unfold Sp.dot
    (repeat' split) <;> omega
set_option maxRecDepth 100000 in
set_option maxHeartbeats 2000000 in
theorem vcheck_calls (l : List Sp.Dot) (A : Option Addr) (cap : Nat) (w : World) (h : Dots w A l) (hl : l.length ≤ 140737488351232) :
    Calls Tryz.prog 137 #[.slice A l.length cap] w fun e w' => e = .returned (.int .i64 (Sp.vcheck l)) ∧ Ext w w' := by
  go_enter Tryz.func137, Tryz.ntmps137
  go_wp2
  go_loopw [3, 9] (fun v3 v9 wr => ∃ (k : Nat) (last : Int), k ≤ l.length ∧ v3 = .int .i64 last ∧ v9 = .int .i64 k ∧ Sp.vcheck l = Sp.vgo last (l.drop k) ∧ Ext w wr) (fun _ v9 _ => l.length - (intOf v9).toNat)
  case atStart => exact ⟨0, -1, Nat.zero_le _, rfl, rfl, rfl, Ext.refl _⟩
  case round =>
    obtain ⟨k, last, hk, rfl, rfl, hv, hb⟩ := hrel
    by_cases hlt : k < l.length
    · obtain ⟨g, o, rfl, hc⟩ := (h.ext hb).at (by omega)
      obtain ⟨c1, c2⟩ := hc k hlt
      rw [List.drop_eq_getElem_cons hlt, Sp.vgo] at hv
      have HV := Lib.hid hv
      clear hc hv
      go_wp2_with (go_at_call 209; refine (vdot_calls l[k] _).mono ?_; rintro e w1 ⟨rfl, hb1⟩; obtain ⟨hc1, hf1⟩ := bcell hb1; have B1 := Lib.hid (hb.trans ((Ext.alloc _ _).trans hb1)); clear hb1)
      · go_ret
        exact ⟨ret_int (by have := HV.out; simp_all), B1.out⟩
      · go_ret
        exact ⟨ret_int (by have := HV.out; simp_all), B1.out⟩
      · go_roundw
        case rel => exact ⟨k + 1, _, by omega, rfl, by go_num, by have := HV.out; simp_all; omega, B1.out⟩
        case measure => simp [intOf]; omega
    · obtain rfl : k = l.length := by omega
      rw [List.drop_length, Sp.vgo] at hv
      have HV := Lib.hid hv
      clear hv
      go_wp2
      go_ret
      exact ⟨ret_int HV.out.symm, hb⟩
set_option maxRecDepth 100000 in
set_option maxHeartbeats 2000000 in
theorem vfind1_calls (d : Sp.Dot) (p : Int) (w : World) (hd : Sp.dot d = 0) (hp : 0 ≤ p ∧ p < 64) : Calls Tryz.prog 306 #[dotV d, .int .i64 p] w fun e w' => e = .returned (.int .i64 (d.1 - p)) ∧ Ext w w' := by
  obtain ⟨h1, h2, h3, h4⟩ := Sp.dot_ok.1 hd
  have e1 : IntKind.i64.wrap (d.1 - p) = d.1 - p := IntWalk.i64_in _ (by omega)
  go_enter Tryz.func306, Tryz.ntmps306
  go_wp2
  go_ret
  exact ⟨rfl, Ext.alloc _ _⟩
def Told (l : List Sp.Dot) (p : Int) (e : Ending) : Prop := ∃ i : Nat, Sp.Cut l p i ∧ e = .returned (.tuple #[.int .i64 i, .bool (decide (∃ h : i < l.length, l[i].1 = p))])
set_option maxRecDepth 100000 in
set_option maxHeartbeats 2000000 in
theorem bsearch_calls (l : List Sp.Dot) (A : Option Addr) (cap : Nat) (p : Int) (w : World) (h : Dots w A l) (hl : l.length ≤ 140737488351232) (hv : Sp.vcheck l = 0) (hp : 0 ≤ p ∧ p < 64) :
    Calls Tryz.prog 305 #[.slice A l.length cap, .int .i64 p, .func (.func 306) #[] #[]] w fun e w' => Told l p e ∧ Ext w w' := by
  obtain ⟨hdots, hpair⟩ := Sp.vcheck_ok.1 hv
  clear hv
  go_enter Tryz.func305, Tryz.ntmps305
  go_wp2
  go_loopw [9, 10] (fun v9 v10 wr => ∃ (i j : Nat), i ≤ j ∧ j ≤ l.length ∧ v9 = .int .i64 i ∧ v10 = .int .i64 j ∧ (∀ k (h : k < l.length), k < i → l[k].1 < p) ∧ (∀ k (h : k < l.length), j ≤ k → p ≤ l[k].1) ∧ Ext w wr) (fun v9 v10 _ => (intOf v10).toNat - (intOf v9).toNat)
  case atStart => exact ⟨0, l.length, Nat.zero_le _, Nat.le_refl _, rfl, rfl, fun k _ h => absurd h (Nat.not_lt_zero k), fun k h1 h2 => absurd h1 (by omega), Ext.refl _⟩
  case round =>
    obtain ⟨i, j, hij, hj, rfl, rfl, hlo, hhi, hb⟩ := hrel
    by_cases hlt : i < j
    · obtain ⟨m, hm⟩ : ∃ m, m = (i + j) / 2 := ⟨_, rfl⟩
      have hml : m < l.length := by omega
      obtain ⟨g, o, rfl, hc⟩ := (h.ext hb).at (by omega)
      obtain ⟨c1, c2⟩ := hc m hml
      have e1 : ((i : Int) + (j : Int)) / 2 = (m : Int) := by omega
      have hdm := hdots l[m] (List.getElem_mem hml)
      clear hc hm
      have HLO := Lib.hid hlo
      have HHI := Lib.hid hhi
      clear hlo hhi
      go_wp2_with (go_at_call 306; refine (vfind1_calls l[m] p _ hdm hp).mono ?_; rintro e w1 ⟨rfl, hb1⟩; obtain ⟨hc1, hf1⟩ := bcell hb1; have B1 := Lib.hid (hb.trans hb1); clear hb1)
      · have hlt2 : l[m].1 - p < 0 := by assumption
        go_roundw
        case rel =>
          refine ⟨m + 1, j, by omega, hj, by go_num, rfl, fun k h hk => ?_, HHI.out, B1.out⟩
          rcases Nat.lt_or_ge k m with h1 | h1
          · have := List.pairwise_iff_getElem.1 hpair k m h hml h1; omega
          · obtain rfl : k = m := by omega
            omega
        case measure => simp [intOf]; omega
      · have hge : 0 ≤ l[m].1 - p := by omega
        go_roundw
        case rel =>
          refine ⟨i, m, by omega, by omega, rfl, rfl, HLO.out, fun k h hk => ?_, B1.out⟩
          rcases Nat.lt_or_ge m k with h1 | h1
          · have := List.pairwise_iff_getElem.1 hpair m k hml h h1; omega
          · obtain rfl : k = m := by omega
            omega
        case measure => simp [intOf]; omega
    · obtain rfl : i = j := by omega
      have CT := Lib.hid (show Sp.Cut l p i from ⟨hj, hlo, hhi⟩)
      clear hlo hhi
      by_cases hn : i < l.length
      · obtain ⟨g, o, rfl, hc⟩ := (h.ext hb).at (by omega)
        obtain ⟨c1, c2⟩ := hc i hn
        have hdm := hdots l[i] (List.getElem_mem hn)
        have F := Lib.hid (show decide (∃ h : i < l.length, l[i].1 = p) = (l[i].1 - p == 0) by
          rw [Bool.eq_iff_iff, decide_eq_true_eq, beq_iff_eq]
          constructor
          · rintro ⟨_, h⟩; omega
          · intro h; exact ⟨hn, by omega⟩)
        clear hc
        go_wp2_with (go_at_call 306; refine (vfind1_calls l[i] p _ hdm hp).mono ?_; rintro e w1 ⟨rfl, hb1⟩; have B1 := Lib.hid (hb.trans hb1); clear hb1)
        go_ret2
        exact ⟨⟨i, CT.out, by rw [F.out]; rfl⟩, B1.out⟩
      · have F := Lib.hid (show decide (∃ h : i < l.length, l[i].1 = p) = false by rw [decide_eq_false_iff_not]; rintro ⟨h, _⟩; exact hn h)
        go_wp2_with fail
        go_ret2
        exact ⟨⟨i, CT.out, by rw [F.out]; rfl⟩, hb⟩
set_option maxRecDepth 100000 in
set_option maxHeartbeats 2000000 in
theorem vfind_calls (l : List Sp.Dot) (A : Option Addr) (cap : Nat) (p : Int) (w : World) (h : Dots w A l) (hl : l.length ≤ 140737488351232) (hv : Sp.vcheck l = 0) (hp : 0 ≤ p ∧ p < 64) :
    Calls Tryz.prog 285 #[.slice A l.length cap, .int .i64 p] w fun e w' => e = .returned (.int .i64 (Sp.vfind p l)) ∧ Ext w w' := by
  have C := Lib.hid (bsearch_calls l A cap p w h hl hv hp)
  have hpair := Lib.hid (Sp.vcheck_ok.1 hv).2
  have H := Lib.hid h
  clear hv h
  go_enter Tryz.func285, Tryz.ntmps285
  go_wp2_with fail
  refine C.out.mono ?_
  rintro e w1 ⟨⟨i, CT, rfl⟩, hb1⟩
  have CT1 := Lib.hid CT
  clear CT
  by_cases ht : ∃ h : i < l.length, l[i].1 = p
  · obtain ⟨hn, he⟩ := ht
    obtain ⟨g, o, rfl, hc⟩ := (H.out.ext hb1).at (by omega)
    obtain ⟨c1, c2⟩ := hc i hn
    have hd : decide (∃ h : i < l.length, l[i].1 = p) = true := decide_eq_true ⟨hn, he⟩
    have F := Lib.hid (CT1.out.there hpair.out hn he)
    rw [hd]
    clear hc hd he
    go_wp2
    go_ret
    exact ⟨ret_int F.out.symm, hb1⟩
  · have hd : decide (∃ h : i < l.length, l[i].1 = p) = false := decide_eq_false ht
    have F := Lib.hid (CT1.out.gone hpair.out fun hi he => ht ⟨hi, he⟩)
    rw [hd]
    clear hd ht
    go_wp2
    go_ret
    exact ⟨ret_int F.out.symm, hb1⟩
end Go.Proofs.YtmlfnidckfeebaaGreatDoor
namespace Go.Proofs.YtmlfnidckfeebaaGreatDoor
def byteV (c : UInt8) : Value := .int .u8 c.toNat
theorem conv_cells {P : Program} {w : World} {src e dst : TypeId} (hs : P.underlying src = some (.slice e)) (he : P.underlying e = some (.int .u8)) (hd : P.underlying dst = some .string) (g o cap : Nat) (l : List UInt8)
    (hc : ∀ i, (h : i < l.length) → w.cell? ⟨g, o + i, none⟩ = some (byteV l[i])) : (convert src dst (.slice (some ⟨g, o, none⟩) l.length cap)).run P w = .ok (.string ⟨l.toArray⟩) w := by
  have := run_convert_bytes_arg (P := P) w src e hs he g o l.length cap (l.map fun c => (c.toNat : Int)) (by simp) (fun i hi => by
    rw [hc i hi]; simp [byteV, List.getD, hi]) dst hd
  rw [this]
  congr 3
  unfold strOfNums
  congr 2
  rw [List.map_map]
  conv => rhs; rw [← List.map_id l]
  congr 1
  funext c
  simp

def strOf (l : List UInt8) : ByteArray := ⟨l.toArray⟩
@[simp] theorem strOf_data (l : List UInt8) : (strOf l).data.toList = l := by simp [strOf]
theorem strOf_self (s : ByteArray) : strOf s.data.toList = s := by simp [strOf]
theorem strOf_append (s : ByteArray) (l : List UInt8) : s ++ strOf l = strOf (s.data.toList ++ l) := by
  apply ByteArray.ext
  simp [strOf, ByteArray.data_append]
theorem strOf_size (l : List UInt8) : (strOf l).size = l.length := by simp [strOf, ByteArray.size]
theorem strOf_toList (l : List UInt8) : (strOf l).toList = l := by rw [toList_data, strOf_data]
theorem conv_new {P : Program} {ops : Array Oper} {rest : List Oper} {o : Oper} {a : Act} {Q : Exit → Act → World → Prop} {w : World} {src e dst : TypeId} {x : Operand} (ho : o.op = .convert src dst x) (hgd : o.guard = none)
    (hs : P.underlying src = some (.slice e)) (he : P.underlying e = some (.int .u8)) (hd : P.underlying dst = some .string) (g off n cap : Nat) (l : List UInt8) (hx : a.eval x = .slice (some ⟨g, off, none⟩) n cap) (hn : n = l.length)
    (hc : ∀ i, (h : i < l.length) → w.cell? ⟨g, off + i, none⟩ = some (byteV l[i])) (h : wpList P ops Q rest (a.put o.dst (.string (strOf l))) w) : wpList P ops Q (o :: rest) a w := by
  subst hn
  refine wpList_plain hgd fun K hK => ?_
  unfold Oper.wp
  have hr : (execOp a.eval o).run P w = .ok (.value (.string (strOf l))) w := by
    simp only [execOp, ho, hx]
    simp [conv_cells (P := P) (w := w) hs he hd g off cap l hc, strOf]
  rw [hr]
  exact hK _ _ h

end Go.Proofs.YtmlfnidckfeebaaGreatDoor
namespace Go.Proofs.YtmlfnidckfeebaaGreatDoor
open Go.RowKit
theorem box_at (w : World) (cs : Array Value) (t : TypeId) : isBlk (w.alloc (.cells cs t)) w.heap.size t cs := heap_alloc_new _ _
abbrev verC (A : Option Addr) (cap : Nat) (v : Sp.Ver) : Array Value := #[.int .i64 v.dot.1, .int .i64 v.dot.2, .slice A v.past.length cap, .bool v.dead, .string (strOf v.data)]
abbrev verV (A : Option Addr) (cap : Nat) (v : Sp.Ver) : Value := .agg (verC A cap v)
def Past (w : World) (A : Option Addr) (v : Sp.Ver) : Prop := Dots w A v.past ∧ v.past.length ≤ 140737488351232
theorem Past.ext {w w' : World} {A : Option Addr} {v : Sp.Ver} (h : Past w A v) (e : Ext w w') : Past w' A v := ⟨h.1.ext e, h.2⟩
def versC : List (Option Addr × Nat × Sp.Ver) → List Value
  | [] => []
  | x :: r => (verC x.1 x.2.1 x.2.2).toList ++ versC r
theorem versC_len (l : List (Option Addr × Nat × Sp.Ver)) : (versC l).length = l.length * 5 := by
  induction l with
  | nil => rfl
  | cons d r ih => simp only [versC, List.length_append, ih, List.length_cons]; simp; omega
theorem versC_append (l m : List (Option Addr × Nat × Sp.Ver)) : versC (l ++ m) = versC l ++ versC m := by
  induction l with
  | nil => rfl
  | cons d r ih => simp [versC, ih]
theorem versC_get (l : List (Option Addr × Nat × Sp.Ver)) (k i : Nat) (h : k < l.length) (hi : i < 5) : (versC l)[k * 5 + i]? = (verC l[k].1 l[k].2.1 l[k].2.2)[i]? := by
  induction l generalizing k with
  | nil => simp at h
  | cons d r ih =>
    cases k with
    | zero => rw [versC, List.getElem?_append_left (by simp; omega)]; simp
    | succ k =>
      have := ih k (by simpa using h)
      rw [versC, List.getElem?_append_right (by simp; omega)]
      simp only [List.getElem_cons_succ]
      rw [← this]
      congr 1
      simp; omega
def Vers (w : World) (A : Option Addr) (l : List Sp.Ver) : Prop := ∃ m : List (Option Addr × Nat × Sp.Ver), m.map (·.2.2) = l ∧ Cells w A (versC m) ∧ ∀ x ∈ m, Past w x.1 x.2.2
theorem Vers.ext {w w' : World} {A : Option Addr} {l : List Sp.Ver} (h : Vers w A l) (e : Ext w w') : Vers w' A l := by
  obtain ⟨m, h1, h2, h3⟩ := h
  exact ⟨m, h1, h2.ext e, fun x hx => (h3 x hx).ext e⟩
theorem Vers.nil (w : World) (A : Option Addr) : Vers w A [] := ⟨[], rfl, Cells.nil _ _, fun _ h => by cases h⟩
structure VerAt (w : World) (g o : Nat) (A : Option Addr) (cap : Nat) (v : Sp.Ver) : Prop where
  c0 : w.cell? ⟨g, o, none⟩ = some (.int .i64 v.dot.1)
  c1 : w.cell? ⟨g, o + 1, none⟩ = some (.int .i64 v.dot.2)
  c2 : w.cell? ⟨g, o + 2, none⟩ = some (.slice A v.past.length cap)
  c3 : w.cell? ⟨g, o + 3, none⟩ = some (.bool v.dead)
  c4 : w.cell? ⟨g, o + 4, none⟩ = some (.string (strOf v.data))
theorem VerAt.ext {w w' : World} {g o : Nat} {A : Option Addr} {cap : Nat} {v : Sp.Ver} (h : VerAt w g o A cap v) (e : Ext w w') : VerAt w' g o A cap v :=
  ⟨e.cell h.c0, e.cell h.c1, e.cell h.c2, e.cell h.c3, e.cell h.c4⟩
theorem Vers.at {w : World} {A : Option Addr} {l : List Sp.Ver} (h : Vers w A l) (hn : 0 < l.length) : ∃ g o, A = some ⟨g, o, none⟩ ∧ ∀ k (h : k < l.length), ∃ A' cap', VerAt w g (o + k * 5) A' cap' l[k] ∧ Past w A' l[k] := by
  obtain ⟨m, rfl, h2, h3⟩ := h
  have hm : 0 < m.length := by simpa using hn
  obtain ⟨g, o, hA, hc⟩ := h2 (by intro e; have := versC_len m; rw [e] at this; simp at this; omega)
  refine ⟨g, o, hA, fun k hk => ?_⟩
  have hk' : k < m.length := by simpa using hk
  have hp := h3 m[k] (List.getElem_mem hk')
  have hget := fun i hi => versC_get m k i hk' hi
  simp only [List.getElem_map]
  refine ⟨m[k].1, m[k].2.1, ⟨?_, ?_, ?_, ?_, ?_⟩, hp⟩
  · exact hc _ _ ((hget 0 (by decide)).trans rfl)
  · rw [Nat.add_assoc]; exact hc _ _ ((hget 1 (by decide)).trans rfl)
  · rw [Nat.add_assoc]; exact hc _ _ ((hget 2 (by decide)).trans rfl)
  · rw [Nat.add_assoc]; exact hc _ _ ((hget 3 (by decide)).trans rfl)
  · rw [Nat.add_assoc]; exact hc _ _ ((hget 4 (by decide)).trans rfl)
theorem isBlk.ver {w : World} {g t cap : Nat} {A : Option Addr} {v : Sp.Ver} (h : isBlk w g t (verC A cap v)) : VerAt w g 0 A cap v :=
  ⟨(h.cell 0).trans rfl, (h.cell 1).trans rfl, (h.cell 2).trans rfl, (h.cell 3).trans rfl, (h.cell 4).trans rfl⟩
end Go.Proofs.YtmlfnidckfeebaaGreatDoor
namespace Go.Proofs.YtmlfnidckfeebaaGreatDoor
open Go.RowKit
attribute [local go_sem] yUpon
def DD (w : World) (A : Option Addr) (ls : List (List Sp.Dot)) : Prop := ∃ cs : List Value, cs.length = ls.length ∧ Cells w A cs ∧ ∀ i (h : i < ls.length), ∃ A' cap', cs[i]? = some (.slice A' ls[i].length cap') ∧ Dots w A' ls[i] ∧ ls[i].length ≤ 140737488351232
theorem DD.ext {w w' : World} {A : Option Addr} {l : List (List Sp.Dot)} (h : DD w A l) (e : Ext w w') : DD w' A l := by
  obtain ⟨cs, h1, h2, h3⟩ := h
  exact ⟨cs, h1, h2.ext e, fun i hi => by obtain ⟨A', c', a, b, c⟩ := h3 i hi; exact ⟨A', c', a, b.ext e, c⟩⟩
theorem DD.at {w : World} {A : Option Addr} {ls : List (List Sp.Dot)} (h : DD w A ls) (k : Nat) (hk : k < ls.length) : ∃ g o A' cap', A = some ⟨g, o, none⟩ ∧ w.cell? ⟨g, o + k, none⟩ = some (.slice A' ls[k].length cap') ∧ Dots w A' ls[k] ∧ ls[k].length ≤ 140737488351232 := by
  obtain ⟨cs, h1, h2, h3⟩ := h
  obtain ⟨g, o, hA, hc⟩ := h2 (by rintro rfl; simp at h1; omega)
  obtain ⟨A', c', a, b, c⟩ := h3 k hk
  exact ⟨g, o, A', c', hA, hc _ _ a, b, c⟩
theorem DD.one {w : World} {l : List Sp.Dot} {A : Option Addr} {cap : Nat} {t : TypeId} (h : Dots w A l) (hl : l.length ≤ 140737488351232) : DD (w.alloc (.cells #[.slice A l.length cap] t)) (some ⟨w.heap.size, 0, none⟩) [l] :=
  ⟨[.slice A l.length cap], rfl, fun _ => ⟨_, _, rfl, fun i u hi => by rw [Nat.zero_add, cell_of_row _ w.heap.size i _ t (0, 0) (heap_alloc_new w _)]; simpa using hi⟩, fun i hi => by
    obtain rfl : i = 0 := by simpa using hi
    exact ⟨A, cap, rfl, h.ext (Ext.alloc _ _), hl⟩⟩
theorem DD.two {w : World} {l m : List Sp.Dot} {A B : Option Addr} {cap cap' : Nat} {t : TypeId} (h : Dots w A l) (hl : l.length ≤ 140737488351232) (h' : Dots w B m) (hl' : m.length ≤ 140737488351232) : DD (w.alloc (.cells #[.slice A l.length cap, .slice B m.length cap'] t)) (some ⟨w.heap.size, 0, none⟩) [l, m] :=
  ⟨[.slice A l.length cap, .slice B m.length cap'], rfl, fun _ => ⟨_, _, rfl, fun i u hi => by rw [Nat.zero_add, cell_of_row _ w.heap.size i _ t (0, 0) (heap_alloc_new w _)]; simpa using hi⟩, fun i hi => by
    rcases i with _ | _ | i
    · exact ⟨A, cap, rfl, h.ext (Ext.alloc _ _), hl⟩
    · exact ⟨B, cap', rfl, h'.ext (Ext.alloc _ _), hl'⟩
    · simp at hi; omega⟩
set_option maxRecDepth 100000 in
set_option maxHeartbeats 2000000 in
theorem vright1_calls (l : List Sp.Dot) (A : Option Addr) (cap : Nat) (w : World) (h : Dots w A l) (hl : l.length ≤ 140737488351232) :
    Calls Tryz.prog 302 #[.slice A l.length cap] w fun e w' => e = .returned (.bool (Sp.vcheck l != 0)) ∧ Ext w w' := by
  go_enter Tryz.func302, Tryz.ntmps302
  go_wp2_with (go_at_call 137; refine (vcheck_calls l A cap _ h hl).mono ?_; rintro e w1 ⟨rfl, hb1⟩)
  go_ret
  exact ⟨rfl, hb1⟩
def ToldAt (is : Bool) (e : Ending) : Prop := ∃ r : Int, e = .returned (.int .i64 r) ∧ decide (0 ≤ r) = is
set_option maxRecDepth 100000 in
set_option maxHeartbeats 2000000 in
theorem vindex_calls (ls : List (List Sp.Dot)) (A : Option Addr) (cap : Nat) (w : World) (h : DD w A ls) (hl : ls.length ≤ 140737488351232) :
    Calls Tryz.prog 321 #[.slice A ls.length cap, .func (.func 302) #[] #[]] w fun e w' => ToldAt (ls.any fun l => Sp.vcheck l != 0) e ∧ Ext w w' := by
  go_enter Tryz.func321, Tryz.ntmps321
  go_wp2
  go_loopw [8] (fun v8 wr => ∃ k : Nat, k ≤ ls.length ∧ v8 = .int .i64 k ∧ (ls.any fun l => Sp.vcheck l != 0) = ((ls.drop k).any fun l => Sp.vcheck l != 0) ∧ Ext w wr) (fun v8 _ => ls.length - (intOf v8).toNat)
  case atStart => exact ⟨0, Nat.zero_le _, rfl, rfl, Ext.refl _⟩
  case round =>
    obtain ⟨k, hk, rfl, hv, hb⟩ := hrel
    by_cases hlt : k < ls.length
    · obtain ⟨g, o, A', c', rfl, c1, hd, hdl⟩ := (h.ext hb).at k hlt
      rw [List.drop_eq_getElem_cons hlt, List.any_cons] at hv
      have HV := Lib.hid hv
      clear hv
      go_wp2_with (go_at_call 302; refine (vright1_calls ls[k] A' c' _ hd hdl).mono ?_; rintro e w1 ⟨rfl, hb1⟩; have B1 := Lib.hid (hb.trans hb1); clear hb1)
      · go_ret
        exact ⟨⟨k, rfl, by rw [HV.out]; simp_all⟩, B1.out⟩
      · go_roundw
        case rel => exact ⟨k + 1, by omega, by go_num, by rw [HV.out]; simp_all, B1.out⟩
        case measure => simp [intOf]; omega
    · obtain rfl : k = ls.length := by omega
      have HV := Lib.hid hv
      clear hv
      go_wp2
      go_ret
      exact ⟨⟨-1, rfl, by rw [HV.out]; simp⟩, hb⟩
set_option maxRecDepth 100000 in
set_option maxHeartbeats 2000000 in
theorem vcontains_calls (ls : List (List Sp.Dot)) (A : Option Addr) (cap : Nat) (w : World) (h : DD w A ls) (hl : ls.length ≤ 140737488351232) :
    Calls Tryz.prog 301 #[.slice A ls.length cap, .func (.func 302) #[] #[]] w fun e w' => e = .returned (.bool (ls.any fun l => Sp.vcheck l != 0)) ∧ Ext w w' := by
  have C := Lib.hid (vindex_calls ls A cap w h hl)
  clear h
  go_enter Tryz.func301, Tryz.ntmps301
  go_wp2_with fail
  refine C.out.mono ?_
  rintro e w1 ⟨⟨r, rfl, hr⟩, hb1⟩
  have HR := Lib.hid hr
  clear hr
  go_wp2
  go_ret
  exact ⟨by rw [← HR.out]; rfl, hb1⟩
set_option maxRecDepth 100000 in
set_option maxHeartbeats 2000000 in
theorem vright_calls (ls : List (List Sp.Dot)) (A : Option Addr) (cap : Nat) (w : World) (h : DD w A ls) (hl : ls.length ≤ 140737488351232) :
    Calls Tryz.prog 277 #[.slice A ls.length cap] w fun e w' => e = .returned (.bool (!(ls.any fun l => Sp.vcheck l != 0))) ∧ Ext w w' := by
  go_enter Tryz.func277, Tryz.ntmps277
  go_wp2_with (go_at_call 301; refine (vcontains_calls ls A cap w h hl).mono ?_; rintro e w1 ⟨rfl, hb1⟩)
  go_ret
  exact ⟨rfl, hb1⟩
set_option maxRecDepth 100000 in
set_option maxHeartbeats 2000000 in
theorem vget_calls (l : List Sp.Dot) (A : Option Addr) (cap : Nat) (p : Int) (w : World) (h : Dots w A l) (hl : l.length ≤ 140737488351232) :
    Calls Tryz.prog 265 #[.slice A l.length cap, .int .i64 p] w fun e w' => e = .returned (.int .i64 (Sp.vget l p)) ∧ Ext w w' := by
  have R := Lib.hid (vright_calls [l] (some ⟨w.heap.size, 0, none⟩) 1 (w.alloc (.cells #[.slice A l.length cap] 69)) (DD.one h hl) (by simp))
  have FO := Lib.hid (Sp.vget_out l p)
  by_cases hv : Sp.vcheck l = 0
  · have FI := Lib.hid (show Sp.vget l p = Sp.vfind p l from if_neg (by simpa using hv))
    have C := Lib.hid fun W e hp => vfind_calls l A cap p W (h.ext e) hl hv hp
    have e1 : (!([l].any fun l => Sp.vcheck l != 0)) = true := by simp [hv]
    rw [e1] at R
    clear h hv e1
    go_enter Tryz.func265, Tryz.ntmps265
    go_wp2_with (first
      | (go_at_call 277; refine R.out.mono ?_; rintro e w1 ⟨rfl, hb1⟩; have B1 := Lib.hid ((Ext.alloc w _).trans hb1); clear hb1)
      | (go_at_call 285; refine (C.out _ B1.out (by omega)).mono ?_; rintro e w2 ⟨rfl, hb2⟩; have B2 := Lib.hid (B1.out.trans hb2); clear hb2))
    all_goals first
      | (go_ret; exact ⟨ret_int (FO.out (by omega)).symm, B1.out⟩)
      | (go_ret; exact ⟨ret_int FI.out.symm, B2.out⟩)
  · have FI := Lib.hid (show Sp.vget l p = 0 from if_pos hv)
    have e1 : (!([l].any fun l => Sp.vcheck l != 0)) = false := by simp [hv]
    rw [e1] at R
    clear h hv e1
    go_enter Tryz.func265, Tryz.ntmps265
    go_wp2_with (go_at_call 277; refine R.out.mono ?_; rintro e w1 ⟨rfl, hb1⟩; have B1 := Lib.hid ((Ext.alloc w _).trans hb1); clear hb1)
    go_ret
    exact ⟨ret_int FI.out.symm, B1.out⟩
set_option maxRecDepth 100000 in
set_option maxHeartbeats 2000000 in
theorem vhas_calls (l : List Sp.Dot) (A : Option Addr) (cap : Nat) (d : Sp.Dot) (w : World) (h : Dots w A l) (hl : l.length ≤ 140737488351232) :
    Calls Tryz.prog 229 #[.slice A l.length cap, dotV d] w fun e w' => e = .returned (.bool (Sp.vhas l d)) ∧ Ext w w' := by
  obtain ⟨W0, hW0⟩ : ∃ W0, W0 = w.alloc (.cells #[.int .i64 d.1, .int .i64 d.2] 68) := ⟨_, rfl⟩
  have HB := Lib.hid (show isBlk W0 w.heap.size 68 #[.int .i64 d.1, .int .i64 d.2] by rw [hW0]; exact box_at _ _ _)
  have E0 := Lib.hid (show Ext w W0 by rw [hW0]; exact Ext.alloc _ _)
  have G := Lib.hid fun W e => vget_calls l A cap d.1 W (h.ext (E0.out.trans e)) hl
  have HW := Lib.hid hW0.symm
  clear hW0 h
  by_cases h1 : 1 ≤ d.2
  · have b1 : decide (1 ≤ d.2) = true := decide_eq_true h1
    have F := Lib.hid (show Sp.vhas l d = decide (d.2 ≤ Sp.vget l d.1) by unfold Sp.vhas; rw [b1]; rfl)
    clear h1
    go_enter Tryz.func229, Tryz.ntmps229
    go_wp2_with fail
    rw [HW.out]
    refine wp_region_det (fun W => Ext W0 W) (by kernel_rfl) (by kernel_rfl) (Below.refl _ _).drew ?_
    repeat (first
      | (refine det_step (fun K hK => ?_)
         apply Exists.intro
         refine ⟨Or.inl ⟨rfl, fun W hS => ?_⟩, ?_⟩
         · replace hS : Ext W0 W := hS
           have z := HB.out.below hS; have f0 := (z.cell 0).trans rfl; have f1 := (z.cell 1).trans rfl
           go_simp
           first
           | exact rfl
           | exact ⟨rfl, hS⟩
           | (refine (G.out W hS).mono ?_; rintro e w1 ⟨rfl, hb1⟩; exact ⟨rfl, hS.trans hb1⟩)
         go_simp
         refine hK _ ?_
         clear hK K)
      | (refine det_step (fun K hK => ?_); refine det_no' rfl ?_; go_simp; refine hK _ ?_; clear hK K))
    refine det_nil ?_
    intro W9 hS
    replace hS : Ext _ W9 := hS
    go_wp2
    go_ret
    exact ⟨by rw [F.out]; rfl, E0.out.trans hS⟩
  · have b1 : decide (1 ≤ d.2) = false := decide_eq_false h1
    have F := Lib.hid (show Sp.vhas l d = false by unfold Sp.vhas; rw [b1]; rfl)
    clear h1
    go_enter Tryz.func229, Tryz.ntmps229
    go_wp2_with fail
    rw [HW.out]
    refine wp_region_det (fun W => Ext W0 W) (by kernel_rfl) (by kernel_rfl) (Below.refl _ _).drew ?_
    repeat (first
      | (refine det_step (fun K hK => ?_)
         apply Exists.intro
         refine ⟨Or.inl ⟨rfl, fun W hS => ?_⟩, ?_⟩
         · replace hS : Ext W0 W := hS
           have z := HB.out.below hS; have f0 := (z.cell 0).trans rfl; have f1 := (z.cell 1).trans rfl
           go_simp
           first
           | exact rfl
           | exact ⟨rfl, hS⟩
           | (fail)
         go_simp
         refine hK _ ?_
         clear hK K)
      | (refine det_step (fun K hK => ?_); refine det_no' rfl ?_; go_simp; refine hK _ ?_; clear hK K))
    refine det_nil ?_
    intro W9 hS
    replace hS : Ext _ W9 := hS
    go_wp2
    go_ret
    exact ⟨by rw [F.out]; rfl, E0.out.trans hS⟩
end Go.Proofs.YtmlfnidckfeebaaGreatDoor
namespace Go.Proofs.YtmlfnidckfeebaaGreatDoor
open Go.RowKit
theorem dot_guard : Tryz.prog.eqGuardType Tryz.prog.depth 68 = false := by kernel_rfl
theorem deq_in (x y : Sp.Dot) (w : World) : (Op.equalIn 10000 68 (dotV x) (dotV y)).run Tryz.prog w = .ok (decide (x = y)) w := by
  have u3 := Tryz.underlying3
  have a3 := Tryz.isAgg3
  have z3 := Tryz.sizeOf3
  have hS : Tryz.prog.underlying 68 = some (.struct (Tryz.prog.fieldsOf 68)) := by kernel_rfl
  have hp : Tryz.prog.stoodInHeld 68 = false := by kernel_rfl
  rw [show (10000 : Nat) = 9999 + 1 from rfl, run_equalIn_agg w 9999 68 _ _ hS hp]
  simp only [Program.fieldsOf, Tryz.underlying68]
  go_simp
  obtain ⟨x1, x2⟩ := x
  obtain ⟨y1, y2⟩ := y
  by_cases h1 : x1 = y1 <;> by_cases h2 : x2 = y2 <;> simp [h1, h2]
end Go.Proofs.YtmlfnidckfeebaaGreatDoor
namespace Go.Proofs.YtmlfnidckfeebaaGreatDoor
open Go.RowKit
attribute [local go_sem] yUpon
namespace Sp
theorem beq_drop {α} [DecidableEq α] (l m : List α) (k : Nat) (h1 : k < l.length) (h2 : k < m.length) : decide (l.drop k = m.drop k) = (decide (l[k] = m[k]) && decide (l.drop (k + 1) = m.drop (k + 1))) := by
  rw [List.drop_eq_getElem_cons (l := l) h1, List.drop_eq_getElem_cons (i := k) (l := m) h2, Bool.eq_iff_iff]; simp only [Bool.and_eq_true, decide_eq_true_eq, List.cons.injEq]
end Sp
set_option maxRecDepth 100000 in
set_option maxHeartbeats 2000000 in
theorem dequal_calls (l m : List Sp.Dot) (A B : Option Addr) (cap cap' : Nat) (w : World) (h : Dots w A l) (hl : l.length ≤ 140737488351232) (h' : Dots w B m) (hl' : m.length ≤ 140737488351232) :
    Calls Tryz.prog 259 #[.slice A l.length cap, .slice B m.length cap'] w fun e w' => e = .returned (.bool (decide (l = m))) ∧ Ext w w' := by
  by_cases hlm : l.length = m.length
  · have b0 : ((l.length : Int) == (m.length : Int)) = true := by rw [hlm]; simp
    have b1 : ((l.length : Int) != (m.length : Int)) = false := by rw [hlm]; simp
    have HL := Lib.hid hlm
    clear hlm
    go_enter Tryz.func259, Tryz.ntmps259
    go_wp2
    go_loopw [13] (fun v13 wr => ∃ k : Nat, k ≤ l.length ∧ v13 = .int .i64 k ∧ decide (l = m) = decide (l.drop k = m.drop k) ∧ Ext w wr) (fun v13 _ => l.length - (intOf v13).toNat)
    case atStart => exact ⟨0, Nat.zero_le _, rfl, rfl, Ext.refl _⟩
    case round =>
      obtain ⟨k, hk, rfl, hv, hb⟩ := hrel
      by_cases hlt : k < l.length
      · have hlt' : k < m.length := by have := HL.out; omega
        obtain ⟨g, o, rfl, hc⟩ := (h.ext hb).at (by omega)
        obtain ⟨g', o', rfl, hc'⟩ := (h'.ext hb).at (by omega)
        obtain ⟨c1, c2⟩ := hc k hlt
        obtain ⟨d1, d2⟩ := hc' k hlt'
        rw [Sp.beq_drop l m k hlt hlt'] at hv
        have HV := Lib.hid hv
        clear hv hc hc'
        go_wp2_with fail
        have hg := dot_guard
        have hq := deq_in l[k] m[k]
        refine wp_region_det (fun W => Ext wr W) (by kernel_rfl) (by kernel_rfl) (Below.refl _ _).drew ?_
        repeat (first
          | (refine det_step (fun K hK => ?_)
             apply Exists.intro
             refine ⟨Or.inl ⟨rfl, fun W hS => ?_⟩, ?_⟩
             · replace hS : Ext wr W := hS
               have f1 := hS.cell c1; have f2 := hS.cell c2; have f3 := hS.cell d1; have f4 := hS.cell d2
               go_simp
               first
               | exact rfl
               | exact ⟨rfl, hS⟩
               | (fail)
             go_simp
             refine hK _ ?_
             clear hK K)
          | (refine det_step (fun K hK => ?_); refine det_no' rfl ?_; go_simp; refine hK _ ?_; clear hK K))
        refine det_nil ?_
        intro W9 hS
        replace hS : Ext _ W9 := hS
        clear hg hq
        go_wp2
        · go_ret
          refine ⟨?_, hb.trans hS⟩
          have := HV.out
          simp_all
        · go_roundw
          case rel =>
            refine ⟨k + 1, by omega, by go_num, ?_, hb.trans hS⟩
            have := HV.out
            simp_all
          case measure => simp [intOf]; omega
      · obtain rfl : k = l.length := by omega
        have HV := Lib.hid hv
        clear hv
        go_wp2
        go_ret
        exact ⟨by rw [HV.out, List.drop_length, HL.out, List.drop_length]; rfl, hb⟩
  · have b0 : ((l.length : Int) == (m.length : Int)) = false := by rw [beq_eq_false_iff_ne]; omega
    have b1 : ((l.length : Int) != (m.length : Int)) = true := by rw [bne_iff_ne]; omega
    have F := Lib.hid (show decide (l = m) = false by rw [decide_eq_false_iff_not]; rintro rfl; exact hlm rfl)
    clear hlm
    go_enter Tryz.func259, Tryz.ntmps259
    go_wp2
    go_ret
    exact ⟨by rw [F.out]; rfl, Ext.refl _⟩
set_option maxRecDepth 100000 in
set_option maxHeartbeats 2000000 in
theorem vsame_calls (l m : List Sp.Dot) (A B : Option Addr) (cap cap' : Nat) (w : World) (h : Dots w A l) (hl : l.length ≤ 140737488351232) (h' : Dots w B m) (hl' : m.length ≤ 140737488351232) :
    Calls Tryz.prog 208 #[.slice A l.length cap, .slice B m.length cap'] w fun e w' => e = .returned (.bool (decide (l = m))) ∧ Ext w w' := by
  go_enter Tryz.func208, Tryz.ntmps208
  go_wp2_with (go_at_call 259; refine (dequal_calls l m A B cap cap' _ h hl h' hl').mono ?_; rintro e w1 ⟨rfl, hb1⟩)
  go_ret
  exact ⟨rfl, hb1⟩
end Go.Proofs.YtmlfnidckfeebaaGreatDoor
namespace Go.Proofs.YtmlfnidckfeebaaGreatDoor
namespace Sp
def vercheck (v : Ver) : Int :=
  if dot v.dot ≠ 0 then dot v.dot else if vcheck v.past ≠ 0 then vcheck v.past else if vhas v.past v.dot = true then 8 else if 48 < v.data.length then 2 else if v.dead = true ∧ v.data ≠ [] then 7 else 0
def covers (a b : Ver) : Bool := vhas a.past b.dot
def covered (l : List Ver) (v : Ver) : Bool := l.any fun w => covers w v
def lgo : Option Int → List Ver → Int
  | _, [] => 0
  | last, v :: r => if vercheck v ≠ 0 then vercheck v else if (∃ x, last = some x ∧ v.dot.1 ≤ x) then 8 else lgo (some v.dot.1) r
instance (last : Option Int) (d : Int) : Decidable (∃ x, last = some x ∧ d ≤ x) := by
  cases last with
  | none => exact isFalse (by rintro ⟨_, h, _⟩; cases h)
  | some y => exact decidable_of_iff (d ≤ y) ⟨fun h => ⟨y, rfl, h⟩, by rintro ⟨x, h, h'⟩; cases h; exact h'⟩
def leaf (l : List Ver) : Int := if 64 < l.length then 2 else if lgo none l ≠ 0 then lgo none l else if (l.any fun v => covered l v) = true then 7 else 0
def live (l : List Ver) : List Ver := l.filter fun v => !v.dead
end Sp
end Go.Proofs.YtmlfnidckfeebaaGreatDoor
namespace Go.Proofs.YtmlfnidckfeebaaGreatDoor
open Go.RowKit
section
variable {P : Program} {ops : Array Oper} {rest : List Oper} {o : Oper} {a : Act} {Q : Exit → Act → World → Prop} {w : World}
theorem own_len {w : World} {base n : Nat} {e : TypeId} {size : Nat} {v : Value} {xs : List Value} (h : w.ownsRow base e size v n xs) : xs.length = n * size := h.1
theorem own_form {w : World} {base n : Nat} {e : TypeId} {size : Nat} {v : Value} {xs : List Value} (h : w.ownsRow base e size v n xs) : (v = .slice none 0 0 ∧ n = 0 ∧ xs = []) ∨ ∃ g cap, v = .slice (some ⟨g, 0, none⟩) n cap ∧ base ≤ g ∧ g < w.heap.size := by
  rcases h.2 with ⟨h1, h2⟩ | ⟨g, cap, cur, rfl, hg, hh, _⟩
  · exact .inl ⟨h1, h2, List.eq_nil_of_length_eq_zero (by rw [h.1, h2]; simp)⟩
  · exact .inr ⟨g, cap, rfl, hg, (Array.getElem?_eq_some_iff.1 hh).1⟩
theorem own_read {w : World} {base n : Nat} {e : TypeId} {size : Nat} {v : Value} {xs : List Value} (h : w.ownsRow base e size v n xs) : ∃ A cap, v = .slice A n cap ∧ Cells w A xs := by
  rcases own_form h with ⟨rfl, rfl, rfl⟩ | ⟨g, cap, rfl, _, _⟩
  · exact ⟨none, 0, rfl, Cells.nil _ _⟩
  · exact ⟨_, cap, rfl, Cells.own h⟩
theorem app_cells {t e : TypeId} {size bytes : Nat} (hst : AppStat P t e size bytes) (hgd : o.guard = none) (s x : Operand) (ho : o.op = .call { callee := .builtin .append, args := #[s, x], argTypes := #[t, t] })
    (base : Nat) (v : Value) (n : Nat) (xs : List Value) (hs : a.eval s = v) (hown : w.ownsRow base e size v n xs) (X : Option Addr) (m c : Nat) (news : List Value)
    (hx : a.eval x = .slice X m c) (hl : news.length = m * size) (hX : Cells w X news) (h1 : ∀ u ∈ news, u.oneCell' = true) (hcap : (n + m) * bytes ≤ 140737488355328) (hbase : base ≤ w.heap.size)
    (h : ∀ v' w', w'.ownsRow base e size v' (n + m) (xs ++ news) → w.grownBy w' v.ownBlock → Below base w w' → wpList P ops Q rest (a.put o.dst v') w') : wpList P ops Q (o :: rest) a w := by
  obtain ⟨ht, hz0, hb0, i, z, hi, hz, hsz, hby, hzs⟩ := hst
  have hmax : n + m ≤ maxLen := by
    have : n + m ≤ (n + m) * bytes := Nat.le_mul_of_pos_right _ hb0
    unfold maxLen; omega
  by_cases h0 : news = []
  · subst h0
    have hm : m = 0 := by
      rcases Nat.eq_zero_or_pos m with h | h
      · exact h
      · have := Nat.mul_pos h hz0; simp at hl; omega
    subst hm
    have key : (Builtin.append_ #[t, t] o.type #[v, .slice X 0 c]).run P w = .ok v w := by
      rcases own_form hown with ⟨rfl, rfl, _⟩ | ⟨g, cap, rfl, _, _⟩
      · cases X with
        | none => simp [Builtin.append_, run_underlying ht, sizeOf, typeInfo, hi, Builtin.lenOf, Builtin.firstCells]
        | some ad => simp [Builtin.append_, run_underlying ht, sizeOf, typeInfo, hi, Builtin.lenOf, Builtin.firstCells, loadCells, loadCellsFrom]
      · have hnc : n ≤ cap := by
          rcases hown.2 with ⟨hn, _⟩ | ⟨g', cap', cur, hv, _, _, hnc, _⟩
          · cases hn
          · cases hv; exact hnc
        cases X with
        | none => simp [Builtin.append_, run_underlying ht, sizeOf, typeInfo, hi, Builtin.lenOf, Builtin.firstCells, hnc, storeCells]
        | some ad => simp [Builtin.append_, run_underlying ht, sizeOf, typeInfo, hi, Builtin.lenOf, Builtin.firstCells, hnc, storeCells, loadCells, loadCellsFrom]
    refine Lib.wpList_append_run w hgd s x t t ho v _ hs hx v w key ?_
    refine h v w (by simpa using hown) ⟨rfl, rfl, rfl, Nat.le_refl _, fun k _ _ => rfl⟩ (Below.refl _ _)
  · obtain ⟨g, of, hA, hc⟩ := hX h0
    subst hA
    refine wpList_append_own _ hgd s x t ho base e i z size bytes ht hi hz hsz hby hzs hz0 v n xs hs hown ⟨g, of, none⟩ m c news hx hl ?_ h1 hmax hcap hbase ?_
    · intro j u hj
      have := hc j u hj
      cases j <;> simpa [Addr.add] using this
    · intro v' w' hown' hg _
      refine h v' w' hown' hg ((Below.refl _ _).grown hg hbase fun k hk => ?_)
      exact (hown.lt k hk).1
theorem app_zeros {t tn e : TypeId} {size bytes : Nat} (hst : AppStat P t e size bytes) (htn : P.underlying tn = some (.int .i64)) (hgd : o.guard = none) (s x : Operand) (ho : o.op = .call { callee := .builtin .append, args := #[s, x], argTypes := #[t, tn] })
    (n : Nat) (hn : 0 < n) (hs : a.eval s = .slice none 0 0) (hx : a.eval x = .int .i64 n) (hcap : n * bytes ≤ 140737488355328)
    (h : ∀ g cap w', w.heap.size ≤ g → w'.ownsRow w.heap.size e size (.slice (some ⟨g, 0, none⟩) 0 cap) 0 [] → n ≤ cap → cap ≤ 9223372036854775807 → Ext w w' → wpList P ops Q rest (a.put o.dst (.slice (some ⟨g, 0, none⟩) n cap)) w') : wpList P ops Q (o :: rest) a w := by
  obtain ⟨ht, hz0, hb0, i, z, hi, hz, hsz, hby, hzs⟩ := hst
  have hnb : n ≤ n * bytes := Nat.le_mul_of_pos_right _ hb0
  have h63 : ((0 + n : Nat) : Int) ≤ 9223372036854775807 := by omega
  have hnx : Builtin.nextslicecap (0 + n) 0 = n := by
    unfold Builtin.nextslicecap
    rw [if_pos (by omega)]; omega
  have run := Lib.run_append_grow_zeros (P := P) w t tn o.type e i z .i64 .i64 ht htn hi hz none 0 0 [] (by simp [Builtin.firstCells]) n hn (by omega) (by omega) h63 (by rw [hby]; omega) (by rw [hnx, hby]; omega)
  refine Lib.wpList_append_run w hgd s x t tn ho _ _ hs hx _ _ run ?_
  rw [Nat.zero_add]
  have hg1 : n ≤ grownCap w n 0 e := grownCap_ge w _ _ _
  have hg2 := grownCap_le_maxLen w n 0 e (by unfold maxLen; omega)
  unfold maxLen at hg2
  refine h w.heap.size _ _ (Nat.le_refl _) ⟨by simp, .inr ⟨w.heap.size, _, _, rfl, Nat.le_refl _, heap_alloc_new w.drew _, Nat.zero_le _, by unfold maxLen; omega, ?_, by simp⟩⟩ hg1 hg2 ((Below.refl _ _).drew.alloc (Nat.le_refl _) _)
  have hzc : ∀ k, (Builtin.zeroCells z.cells k).size = k * size := fun k => by simp [Builtin.zeroCells, hzs]
  simp only [Array.size_append, hzc]
  simp
  rw [← Nat.add_mul]
  congr 1
  omega
end
end Go.Proofs.YtmlfnidckfeebaaGreatDoor
namespace Go.Proofs.YtmlfnidckfeebaaGreatDoor
open Go.RowKit
attribute [local go_sem] yUpon
set_option maxRecDepth 100000 in
set_option maxHeartbeats 2000000 in
theorem vercheck_calls (v : Sp.Ver) (A : Option Addr) (cap : Nat) (w : World) (h : Past w A v) :
    Calls Tryz.prog 157 #[verV A cap v] w fun e w' => e = .returned (.int .i64 (Sp.vercheck v)) ∧ Ext w w' := by
  obtain ⟨W0, hW0⟩ : ∃ W0, W0 = w.alloc (.cells (verC A cap v) 71) := ⟨_, rfl⟩
  have HB := Lib.hid (show isBlk W0 w.heap.size 71 (verC A cap v) by rw [hW0]; exact box_at _ _ _)
  have E0 := Lib.hid (show Ext w W0 by rw [hW0]; exact Ext.alloc _ _)
  have HW := Lib.hid hW0.symm
  have SZ := Lib.hid (show W0.heap.size = w.heap.size + 1 by rw [hW0]; simp)
  have CO := Lib.hid fun (W : World) (g : Nat) (hg : W.heap.size = g) (t : TypeId) => vcheck_calls [v.dot] (some ⟨g, 0, none⟩) 1 (W.alloc (.cells #[.int .i64 v.dot.1, .int .i64 v.dot.2] t)) (fun _ => ⟨_, _, rfl, fun i u hi => by rw [Nat.zero_add, ← hg, cell_of_row _ W.heap.size i _ t (0, 0) (heap_alloc_new W _)]; simpa [dotsC] using hi⟩) (by simp)
  have CP := Lib.hid fun W (e : Ext w W) => vcheck_calls v.past A cap W (h.1.ext e) h.2
  have CH := Lib.hid fun W (e : Ext w W) => vhas_calls v.past A cap v.dot W (h.1.ext e) h.2
  rw [Sp.vcheck_one] at CO
  have sz : (strOf v.data).size = v.data.length := strOf_size _
  clear h hW0
  go_enter Tryz.func157, Tryz.ntmps157
  go_wp2_with fail
  rw [HW.out]
  refine (CO.out W0 _ SZ.out _).mono ?_
  rintro e w1 ⟨rfl, hb1⟩
  have B1 := Lib.hid ((Ext.alloc W0 _).trans hb1)
  have z1 := HB.out.below B1.out
  have c0 := (z1.cell 0).trans rfl
  have c1 := (z1.cell 1).trans rfl
  have c2 := (z1.cell 2).trans rfl
  have Z1 := Lib.hid z1
  clear z1 hb1
  go_wp2_with (first
    | (go_at_call 137; refine (CP.out _ (E0.out.trans B1.out)).mono ?_; rintro e w2 ⟨rfl, hb2⟩; have z2 := Z1.out.below hb2; have d0 := (z2.cell 0).trans rfl; have d1 := (z2.cell 1).trans rfl; have d2 := (z2.cell 2).trans rfl; have B2 := Lib.hid (B1.out.trans hb2); have Z2 := Lib.hid z2; clear c0 c1 c2 z2 hb2)
    | (go_at_call 229; refine (CH.out _ (E0.out.trans B2.out)).mono ?_; rintro e w3 ⟨rfl, hb3⟩; have z3 := Z2.out.below hb3; have e3 := (z3.cell 3).trans rfl; have e4 := (z3.cell 4).trans rfl; have B3 := Lib.hid (B2.out.trans hb3); clear d0 d1 d2 z3 hb3))
  all_goals
    go_ret
    refine ⟨ret_int ?_, ?_⟩
    · have tl := strOf_toList v.data
      clear HB E0 HW SZ CO CP CH B1 Z1
      unfold Sp.vercheck
      simp_all
      try omega
    · first
        | exact E0.out.trans B3.out
        | exact E0.out.trans B2.out
        | exact E0.out.trans B1.out
set_option maxRecDepth 100000 in
set_option maxHeartbeats 2000000 in
theorem covers_calls (a b : Sp.Ver) (A B : Option Addr) (cap cap' : Nat) (w : World) (h : Past w A a) :
    Calls Tryz.prog 163 #[verV A cap a, verV B cap' b] w fun e w' => e = .returned (.bool (Sp.covers a b)) ∧ Ext w w' := by
  have CH := Lib.hid fun W (e : Ext w W) => vhas_calls a.past A cap b.dot W (h.1.ext e) h.2
  clear h
  go_enter Tryz.func163, Tryz.ntmps163
  go_wp2_with (go_at_call 229; refine (CH.out _ ((Ext.alloc _ _).trans (Ext.alloc _ _))).mono ?_; rintro e w1 ⟨rfl, hb1⟩)
  go_ret
  exact ⟨rfl, ((Ext.alloc _ _).trans (Ext.alloc _ _)).trans hb1⟩
def VarAt (w : World) (g : Nat) (v : Sp.Ver) : Prop := ∃ A cap, VerAt w g 0 A cap v ∧ Past w A v
set_option maxRecDepth 100000 in
set_option maxHeartbeats 2000000 in
theorem cov11_calls (a b : Sp.Ver) (A : Option Addr) (cap : Nat) (g : Nat) (w : World) (h : Past w A a) (hb : VarAt w g b) :
    Calls Tryz.prog 162 #[verV A cap a, .pointer (some ⟨g, 0, none⟩)] w fun e w' => e = .returned (.bool (Sp.covers a b)) ∧ Ext w w' := by
  obtain ⟨B, cap', hv, hp⟩ := hb
  have C := Lib.hid fun W (e : Ext w W) => covers_calls a b A B cap cap' W (h.ext e)
  have hv' := hv.ext (Ext.alloc w (.cells (verC A cap a) 71))
  have c0 := hv'.c0
  have c1 := hv'.c1
  have c2 := hv'.c2
  have c3 := hv'.c3
  have c4 := hv'.c4
  clear hv hv' hp h
  go_enter Tryz.func162, Tryz.ntmps162
  go_wp2_with (go_at_call 163; refine (C.out _ (Ext.alloc _ _)).mono ?_; rintro e w1 ⟨rfl, hb1⟩)
  go_ret
  exact ⟨rfl, (Ext.alloc _ _).trans hb1⟩
set_option maxRecDepth 100000 in
set_option maxHeartbeats 2000000 in
theorem veridx_calls (f : FuncId) (bs : Array Value) (p : Sp.Ver → Bool) (l : List Sp.Ver) (A : Option Addr) (cap : Nat) (w : World) (h : Vers w A l) (hl : l.length ≤ 140737488351232) (eg : ∀ args w, (callFunc f args).run Tryz.prog w = .ok (.enter f args) w)
    (hf : ∀ W A' cap' v, v ∈ l → Ext w W → Past W A' v → Calls Tryz.prog f (#[verV A' cap' v] ++ bs) W fun e w' => e = .returned (.bool (p v)) ∧ Ext W w') :
    Calls Tryz.prog 159 #[.slice A l.length cap, .func (.func f) #[] bs] w fun e w' => ToldAt (l.any p) e ∧ Ext w w' := by
  have HF := Lib.hid hf
  clear hf
  go_enter Tryz.func159, Tryz.ntmps159
  go_wp2
  go_loopw [8] (fun v8 wr => ∃ k : Nat, k ≤ l.length ∧ v8 = .int .i64 k ∧ l.any p = (l.drop k).any p ∧ Ext w wr) (fun v8 _ => l.length - (intOf v8).toNat)
  case atStart => exact ⟨0, Nat.zero_le _, rfl, rfl, Ext.refl _⟩
  case round =>
    obtain ⟨k, hk, rfl, hv, hb⟩ := hrel
    by_cases hlt : k < l.length
    · obtain ⟨g, o, rfl, hc⟩ := (h.ext hb).at (by omega)
      obtain ⟨A', c', ⟨c0, c1, c2, c3, c4⟩, hp⟩ := hc k hlt
      rw [List.drop_eq_getElem_cons hlt, List.any_cons] at hv
      have HV := Lib.hid hv
      have C := Lib.hid (HF.out wr A' c' l[k] (List.getElem_mem hlt) hb hp)
      clear hv hc hp
      go_wp2_with fail
      refine C.out.mono ?_
      rintro e w1 ⟨rfl, hb1⟩
      have B1 := Lib.hid (hb.trans hb1)
      clear hb1
      go_wp2
      · go_ret
        exact ⟨⟨k, rfl, by rw [HV.out]; simp_all⟩, B1.out⟩
      · go_roundw
        case rel => exact ⟨k + 1, by omega, by go_num, by rw [HV.out]; simp_all, B1.out⟩
        case measure => simp [intOf]; omega
    · obtain rfl : k = l.length := by omega
      have HV := Lib.hid hv
      clear hv
      go_wp2
      go_ret
      exact ⟨⟨-1, rfl, by rw [HV.out]; simp⟩, hb⟩
set_option maxRecDepth 100000 in
set_option maxHeartbeats 2000000 in
theorem vercont_calls (f : FuncId) (bs : Array Value) (p : Sp.Ver → Bool) (l : List Sp.Ver) (A : Option Addr) (cap : Nat) (w : World) (h : Vers w A l) (hl : l.length ≤ 140737488351232) (eg : ∀ args w, (callFunc f args).run Tryz.prog w = .ok (.enter f args) w)
    (hf : ∀ W A' cap' v, v ∈ l → Ext w W → Past W A' v → Calls Tryz.prog f (#[verV A' cap' v] ++ bs) W fun e w' => e = .returned (.bool (p v)) ∧ Ext W w') :
    Calls Tryz.prog 158 #[.slice A l.length cap, .func (.func f) #[] bs] w fun e w' => e = .returned (.bool (l.any p)) ∧ Ext w w' := by
  have C := Lib.hid (veridx_calls f bs p l A cap w h hl eg hf)
  clear h hf eg
  go_enter Tryz.func158, Tryz.ntmps158
  go_wp2_with fail
  refine C.out.mono ?_
  rintro e w1 ⟨⟨r, rfl, hr⟩, hb1⟩
  have HR := Lib.hid hr
  clear hr
  go_wp2
  go_ret
  exact ⟨by rw [← HR.out]; rfl, hb1⟩
end Go.Proofs.YtmlfnidckfeebaaGreatDoor
