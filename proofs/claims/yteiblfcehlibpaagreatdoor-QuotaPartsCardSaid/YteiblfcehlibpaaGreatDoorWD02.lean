/- Vectors: plain. Bytes in a block, turned into a text. What lies in memory: versions. Leaves: plain. What a number's bytes are: plain. Walks: names, pieces and patterns, the program's and the reference's. Walks: a number that is read, and the reference's. -/
import Derived.Test.YteiblfcehlibpaaGreatDoorWD01
import Derived.Laws.BytesArg
import Derived.Laws.BitsLemmas
import Derived.Test.YteiblfcehlibpaaGreatDoorShelf
namespace Go.Proofs.YteiblfcehlibpaaGreatDoor
namespace Sp
/-- Why a dot may not be. -/
def dot (d : Dot) : Int := if d.1 < 0 ∨ 64 ≤ d.1 then 11 else if d.2 < 1 ∨ 1048576 < d.2 then 12 else 0
/-- Why dots are no vector. -/
def vgo : Int → List Dot → Int
  | _, [] => 0
  | last, d :: r => if dot d ≠ 0 then dot d else if d.1 ≤ last then 8 else vgo d.1 r
def vcheck (l : List Dot) : Int := vgo (-1) l
/-- The count of a peer. -/
def vfind (p : Int) : List Dot → Int
  | [] => 0
  | d :: r => if d.1 = p then d.2 else vfind p r
def vget (v : List Dot) (p : Int) : Int := if vcheck v ≠ 0 then 0 else vfind p v
def vhas (v : List Dot) (d : Dot) : Bool := decide (1 ≤ d.2) && decide (d.2 ≤ vget v d.1)
theorem dot_ok {d : Dot} : dot d = 0 ↔ 0 ≤ d.1 ∧ d.1 < 64 ∧ 1 ≤ d.2 ∧ d.2 ≤ 1048576 := by
  unfold dot
  split
  · constructor
    · intro h; omega
    · intro h; omega
  · split
    · constructor
      · intro h; omega
      · intro h; omega
    · constructor
      · intro _; omega
      · intro _; rfl
theorem vgo_ok : ∀ (l : List Dot) (last : Int), vgo last l = 0 ↔ (∀ d ∈ l, dot d = 0 ∧ last < d.1) ∧ l.Pairwise (fun a b => a.1 < b.1)
  | [], _ => by simp [vgo]
  | d :: r, last => by
    have ih := vgo_ok r d.1
    rw [vgo]
    by_cases h1 : dot d = 0
    · rw [if_neg (by simpa using h1)]
      by_cases h2 : d.1 ≤ last
      · rw [if_pos h2]
        constructor
        · intro h; cases h
        · intro h; have := (h.1 d (by simp)).2; omega
      · rw [if_neg h2, ih]
        constructor
        · rintro ⟨a, b⟩
          refine ⟨?_, List.pairwise_cons.2 ⟨fun x hx => (a x hx).2, b⟩⟩
          intro x hx
          rcases List.mem_cons.1 hx with rfl | hx
          · exact ⟨h1, by omega⟩
          · exact ⟨(a x hx).1, by have := (a x hx).2; omega⟩
        · rintro ⟨a, b⟩
          have b' := List.pairwise_cons.1 b
          exact ⟨fun x hx => ⟨(a x (by simp [hx])).1, b'.1 x hx⟩, b'.2⟩
    · rw [if_pos h1]
      constructor
      · intro h; exact absurd h h1
      · intro h; exact absurd (h.1 d (by simp)).1 h1
theorem vcheck_ok {l : List Dot} : vcheck l = 0 ↔ (∀ d ∈ l, dot d = 0) ∧ l.Pairwise (fun a b => a.1 < b.1) := by
  unfold vcheck
  rw [vgo_ok]
  constructor
  · rintro ⟨a, b⟩; exact ⟨fun d hd => (a d hd).1, b⟩
  · rintro ⟨a, b⟩; exact ⟨fun d hd => ⟨a d hd, by have := dot_ok.1 (a d hd); omega⟩, b⟩
theorem vcheck_one (d : Dot) : vcheck [d] = dot d := by
  unfold vcheck
  rw [vgo, vgo]
  by_cases h : dot d = 0
  · rw [if_neg (by simpa using h), if_neg (by have := dot_ok.1 h; omega), h]
  · rw [if_pos h]
theorem vfind_none (p : Int) : ∀ (l : List Dot), (∀ d ∈ l, d.1 ≠ p) → vfind p l = 0
  | [], _ => rfl
  | d :: r, h => by rw [vfind, if_neg (h d (by simp)), vfind_none p r fun x hx => h x (by simp [hx])]
theorem vfind_at (p : Int) : ∀ (l : List Dot) (i : Nat) (hi : i < l.length), l.Pairwise (fun a b => a.1 < b.1) → l[i].1 = p → vfind p l = l[i].2
  | d :: r, 0, _, _, h => by rw [vfind, if_pos (show d.1 = p from h)]; rfl
  | d :: r, i + 1, hi, hp, h => by
    have hp' := List.pairwise_cons.1 hp
    have hlt : i < r.length := by simpa using hi
    have h1 := hp'.1 r[i] (List.getElem_mem hlt)
    simp only [List.getElem_cons_succ] at h
    rw [vfind, if_neg (by omega), vfind_at p r i hlt hp'.2 h]
    rfl
theorem vfind_le (p : Int) : ∀ (l : List Dot), (∀ d ∈ l, dot d = 0) → 0 ≤ vfind p l ∧ vfind p l ≤ 1048576
  | [], _ => by simp [vfind]
  | d :: r, h => by
    have := vfind_le p r fun x hx => h x (by simp [hx])
    have hd := dot_ok.1 (h d (by simp))
    rw [vfind]; split <;> omega
theorem vget_le (v : List Dot) (p : Int) : 0 ≤ vget v p ∧ vget v p ≤ 1048576 := by
  unfold vget
  split
  · omega
  · rename_i h
    exact vfind_le p v (vcheck_ok.1 (by simpa using h)).1
/-- Of peers that there are not a vector has none. -/
theorem vget_out (v : List Dot) (p : Int) (h : p < 0 ∨ 64 ≤ p) : vget v p = 0 := by
  unfold vget
  split
  · rfl
  · rename_i hv
    refine vfind_none p v fun d hd => ?_
    have := dot_ok.1 ((vcheck_ok.1 (by simpa using hv)).1 d hd)
    omega
/-- Where a search comes out. -/
structure Cut (l : List Dot) (p : Int) (i : Nat) : Prop where
  le : i ≤ l.length
  lo : ∀ j (h : j < l.length), j < i → l[j].1 < p
  hi : ∀ j (h : j < l.length), i ≤ j → p ≤ l[j].1
theorem Cut.there {l : List Dot} {p : Int} {i : Nat} (_ : Cut l p i) (hp : l.Pairwise (fun a b => a.1 < b.1)) (hi : i < l.length) (h : l[i].1 = p) : vfind p l = l[i].2 := vfind_at p l i hi hp h
theorem Cut.gone {l : List Dot} {p : Int} {i : Nat} (c : Cut l p i) (hp : l.Pairwise (fun a b => a.1 < b.1)) (h : ∀ hi : i < l.length, l[i].1 ≠ p) : vfind p l = 0 := by
  refine vfind_none p l fun d hd e => ?_
  obtain ⟨j, hj, rfl⟩ := List.mem_iff_getElem.1 hd
  rcases Nat.lt_trichotomy j i with h1 | h1 | h1
  · have := c.lo j hj h1; omega
  · subst h1; exact h hj e
  · have hlt : i < l.length := by omega
    have h2 := List.pairwise_iff_getElem.1 hp i j hlt hj h1
    have h3 := c.hi i hlt (Nat.le_refl _)
    omega
end Sp
end Go.Proofs.YteiblfcehlibpaaGreatDoor
namespace Go.Proofs.YteiblfcehlibpaaGreatDoor

/-- A byte as a cell holds it. -/
def byteV (c : UInt8) : Value := .int .u8 c.toNat
theorem conv_cells {P : Program} {w : World} {src e dst : TypeId} (hs : P.underlying src = some (.slice e)) (he : P.underlying e = some (.int .u8)) (hd : P.underlying dst = some .string) (g o cap : Nat) (l : List UInt8)
    (hc : ∀ i, (h : i < l.length) → w.cell? ⟨g, o + i, none⟩ = some (byteV l[i])) : (convert src dst (.slice (some ⟨g, o, none⟩) l.length cap)).run P w = .ok (.string ⟨l.toArray⟩) w := by
  have := run_convert_bytes_arg (P := P) w src e hs he g o l.length cap (l.map fun c => (c.toNat : Int)) (by simp) (fun i hi => by
    rw [hc i hi]; simp [byteV, List.getD, hi]) dst hd
  rw [this]
  congr 3
  unfold strOfNums
  congr 2
  rw [List.map_map]
  conv => rhs; rw [← List.map_id l]
  congr 1
  funext c
  simp

/-- The text of such bytes. -/
def strOf (l : List UInt8) : ByteArray := ⟨l.toArray⟩
@[simp] theorem strOf_data (l : List UInt8) : (strOf l).data.toList = l := by simp [strOf]
theorem strOf_self (s : ByteArray) : strOf s.data.toList = s := by simp [strOf]
theorem strOf_append (s : ByteArray) (l : List UInt8) : s ++ strOf l = strOf (s.data.toList ++ l) := by
  apply ByteArray.ext
  simp [strOf, ByteArray.data_append]
theorem strOf_size (l : List UInt8) : (strOf l).size = l.length := by simp [strOf, ByteArray.size]
theorem extract_take (s : ByteArray) (n : Nat) : s.extract 0 n = strOf (s.data.toList.take n) := by
  apply ByteArray.ext
  apply Array.ext'
  simp [strOf, ByteArray.data_extract]
theorem extract_drop (s : ByteArray) (n : Nat) : s.extract n s.size = strOf (s.data.toList.drop n) := by
  apply ByteArray.ext
  apply Array.ext'
  rw [ByteArray.data_extract]
  simp only [strOf, Array.toList_extract, List.extract_eq_take_drop]
  rw [List.take_of_length_le (by simp)]
theorem strOf_toList (l : List UInt8) : (strOf l).toList = l := by rw [toList_data, strOf_data]
theorem str_beq (l m : List UInt8) : (l == m) = decide (l = m) := by
  by_cases h : l = m <;> simp [h]
/-- A conversion of bytes in a block to a text. -/
theorem conv_new {P : Program} {ops : Array Oper} {rest : List Oper} {o : Oper} {a : Act} {Q : Exit → Act → World → Prop} {w : World} {src e dst : TypeId} {x : Operand} (ho : o.op = .convert src dst x) (hgd : o.guard = none)
    (hs : P.underlying src = some (.slice e)) (he : P.underlying e = some (.int .u8)) (hd : P.underlying dst = some .string) (g off n cap : Nat) (l : List UInt8) (hx : a.eval x = .slice (some ⟨g, off, none⟩) n cap) (hn : n = l.length)
    (hc : ∀ i, (h : i < l.length) → w.cell? ⟨g, off + i, none⟩ = some (byteV l[i])) (h : wpList P ops Q rest (a.put o.dst (.string (strOf l))) w) : wpList P ops Q (o :: rest) a w := by
  subst hn
  refine wpList_plain hgd fun K hK => ?_
  unfold Oper.wp
  have hr : (execOp a.eval o).run P w = .ok (.value (.string (strOf l))) w := by
    simp only [execOp, ho, hx]
    simp [conv_cells (P := P) (w := w) hs he hd g off cap l hc, strOf]
  rw [hr]
  exact hK _ _ h

end Go.Proofs.YteiblfcehlibpaaGreatDoor
namespace Go.Proofs.YteiblfcehlibpaaGreatDoor
open Go.RowKit
theorem box_at (w : World) (cs : Array Value) (t : TypeId) : isBlk (w.alloc (.cells cs t)) w.heap.size t cs := heap_alloc_new _ _
/-- A version's five cells. -/
abbrev verC (A : Option Addr) (cap : Nat) (v : Sp.Ver) : Array Value := #[.int .i64 v.dot.1, .int .i64 v.dot.2, .slice A v.past.length cap, .bool v.dead, .string (strOf v.data)]
abbrev verV (A : Option Addr) (cap : Nat) (v : Sp.Ver) : Value := .agg (verC A cap v)
/-- Where a version's vector lies. -/
def Past (w : World) (A : Option Addr) (v : Sp.Ver) : Prop := Dots w A v.past ∧ v.past.length ≤ 140737488351232
theorem Past.ext {w w' : World} {A : Option Addr} {v : Sp.Ver} (h : Past w A v) (e : Ext w w') : Past w' A v := ⟨h.1.ext e, h.2⟩
/-- Versions, cell by cell; P: where each one's vector lies. -/
def versC : List (Option Addr × Nat × Sp.Ver) → List Value
  | [] => []
  | x :: r => (verC x.1 x.2.1 x.2.2).toList ++ versC r
theorem versC_len (l : List (Option Addr × Nat × Sp.Ver)) : (versC l).length = l.length * 5 := by
  induction l with
  | nil => rfl
  | cons d r ih => simp only [versC, List.length_append, ih, List.length_cons]; simp; omega
theorem versC_append (l m : List (Option Addr × Nat × Sp.Ver)) : versC (l ++ m) = versC l ++ versC m := by
  induction l with
  | nil => rfl
  | cons d r ih => simp [versC, ih]
theorem versC_get (l : List (Option Addr × Nat × Sp.Ver)) (k i : Nat) (h : k < l.length) (hi : i < 5) : (versC l)[k * 5 + i]? = (verC l[k].1 l[k].2.1 l[k].2.2)[i]? := by
  induction l generalizing k with
  | nil => simp at h
  | cons d r ih =>
    cases k with
    | zero => rw [versC, List.getElem?_append_left (by simp; omega)]; simp
    | succ k =>
      have := ih k (by simpa using h)
      rw [versC, List.getElem?_append_right (by simp; omega)]
      simp only [List.getElem_cons_succ]
      rw [← this]
      congr 1
      simp; omega
/-- A slice of versions. -/
def Vers (w : World) (A : Option Addr) (l : List Sp.Ver) : Prop := ∃ m : List (Option Addr × Nat × Sp.Ver), m.map (·.2.2) = l ∧ Cells w A (versC m) ∧ ∀ x ∈ m, Past w x.1 x.2.2
theorem Vers.ext {w w' : World} {A : Option Addr} {l : List Sp.Ver} (h : Vers w A l) (e : Ext w w') : Vers w' A l := by
  obtain ⟨m, h1, h2, h3⟩ := h
  exact ⟨m, h1, h2.ext e, fun x hx => (h3 x hx).ext e⟩
theorem Vers.nil (w : World) (A : Option Addr) : Vers w A [] := ⟨[], rfl, Cells.nil _ _, fun _ h => by cases h⟩
/-- The cells of the version at a place. -/
structure VerAt (w : World) (g o : Nat) (A : Option Addr) (cap : Nat) (v : Sp.Ver) : Prop where
  c0 : w.cell? ⟨g, o, none⟩ = some (.int .i64 v.dot.1)
  c1 : w.cell? ⟨g, o + 1, none⟩ = some (.int .i64 v.dot.2)
  c2 : w.cell? ⟨g, o + 2, none⟩ = some (.slice A v.past.length cap)
  c3 : w.cell? ⟨g, o + 3, none⟩ = some (.bool v.dead)
  c4 : w.cell? ⟨g, o + 4, none⟩ = some (.string (strOf v.data))
theorem VerAt.ext {w w' : World} {g o : Nat} {A : Option Addr} {cap : Nat} {v : Sp.Ver} (h : VerAt w g o A cap v) (e : Ext w w') : VerAt w' g o A cap v :=
  ⟨e.cell h.c0, e.cell h.c1, e.cell h.c2, e.cell h.c3, e.cell h.c4⟩
theorem Vers.at {w : World} {A : Option Addr} {l : List Sp.Ver} (h : Vers w A l) (hn : 0 < l.length) : ∃ g o, A = some ⟨g, o, none⟩ ∧ ∀ k (h : k < l.length), ∃ A' cap', VerAt w g (o + k * 5) A' cap' l[k] ∧ Past w A' l[k] := by
  obtain ⟨m, rfl, h2, h3⟩ := h
  have hm : 0 < m.length := by simpa using hn
  obtain ⟨g, o, hA, hc⟩ := h2 (by intro e; have := versC_len m; rw [e] at this; simp at this; omega)
  refine ⟨g, o, hA, fun k hk => ?_⟩
  have hk' : k < m.length := by simpa using hk
  have hp := h3 m[k] (List.getElem_mem hk')
  have hget := fun i hi => versC_get m k i hk' hi
  simp only [List.getElem_map]
  refine ⟨m[k].1, m[k].2.1, ⟨?_, ?_, ?_, ?_, ?_⟩, hp⟩
  · exact hc _ _ ((hget 0 (by decide)).trans rfl)
  · rw [Nat.add_assoc]; exact hc _ _ ((hget 1 (by decide)).trans rfl)
  · rw [Nat.add_assoc]; exact hc _ _ ((hget 2 (by decide)).trans rfl)
  · rw [Nat.add_assoc]; exact hc _ _ ((hget 3 (by decide)).trans rfl)
  · rw [Nat.add_assoc]; exact hc _ _ ((hget 4 (by decide)).trans rfl)
/-- A version in a variable. -/
theorem isBlk.ver {w : World} {g t cap : Nat} {A : Option Addr} {v : Sp.Ver} (h : isBlk w g t (verC A cap v)) : VerAt w g 0 A cap v :=
  ⟨(h.cell 0).trans rfl, (h.cell 1).trans rfl, (h.cell 2).trans rfl, (h.cell 3).trans rfl, (h.cell 4).trans rfl⟩
end Go.Proofs.YteiblfcehlibpaaGreatDoor
namespace Go.Proofs.YteiblfcehlibpaaGreatDoor
namespace Sp
/-- Why a version may not be. -/
def vercheck (v : Ver) : Int :=
  if dot v.dot ≠ 0 then dot v.dot else if vcheck v.past ≠ 0 then vcheck v.past else if vhas v.past v.dot = true then 8 else if 48 < v.data.length then 2 else if v.dead = true ∧ v.data ≠ [] then 7 else 0
def covers (a b : Ver) : Bool := vhas a.past b.dot
def covered (l : List Ver) (v : Ver) : Bool := l.any fun w => covers w v
/-- Each version may be, and their peers rise. -/
def lgo : Option Int → List Ver → Int
  | _, [] => 0
  | last, v :: r => if vercheck v ≠ 0 then vercheck v else if (∃ x, last = some x ∧ v.dot.1 ≤ x) then 8 else lgo (some v.dot.1) r
instance (last : Option Int) (d : Int) : Decidable (∃ x, last = some x ∧ d ≤ x) := by
  cases last with
  | none => exact isFalse (by rintro ⟨_, h, _⟩; cases h)
  | some y => exact decidable_of_iff (d ≤ y) ⟨fun h => ⟨y, rfl, h⟩, by rintro ⟨x, h, h'⟩; cases h; exact h'⟩
def leaf (l : List Ver) : Int := if 64 < l.length then 2 else if lgo none l ≠ 0 then lgo none l else if (l.any fun v => covered l v) = true then 7 else 0
def live (l : List Ver) : List Ver := l.filter fun v => !v.dead
end Sp
end Go.Proofs.YteiblfcehlibpaaGreatDoor
namespace Go.Proofs.YteiblfcehlibpaaGreatDoor
namespace Sp
/-- A number's bytes, the lowest first. -/
def cput (n : Nat) : List UInt8 := if n < 128 then [UInt8.ofNat n] else UInt8.ofNat (n % 128 + 128) :: cput (n / 128)
termination_by n
decreasing_by omega
def put (n : Int) : List UInt8 := if 0 ≤ n ∧ n ≤ 1073741824 then cput n.toNat else []
/-- The number of bytes. -/
def num : List UInt8 → Nat
  | [] => 0
  | b :: l => b.toNat % 128 + 128 * num l
/-- The place of the first byte below 128, from place i on, among so many. -/
def cend (l : List UInt8) : Nat → Nat → Option Nat
  | 0, _ => none
  | f + 1, i => match l[i]? with
    | none => none
    | some b => if b.toNat < 128 then some i else cend l f (i + 1)
/-- The number that bytes begin with, how many bytes it has, or what is wrong. -/
def take (l : List UInt8) : Nat × Nat × Int := match cend l 5 0 with
  | none => if l.length < 5 then (0, 0, 5) else (0, 0, 2)
  | some i => if l[i]? = some 0 ∧ 0 < i then (0, 0, 7) else if 1073741824 < num (l.take (i + 1)) then (0, 0, 2) else (num (l.take (i + 1)), i + 1, 0)
theorem num_lt : ∀ l : List UInt8, num l < 128 ^ l.length
  | [] => by decide
  | b :: l => by
    have := num_lt l
    have h2 : b.toNat % 128 < 128 := Nat.mod_lt _ (by decide)
    simp only [num, List.length_cons, Nat.pow_succ]
    omega
theorem num_snoc (b : UInt8) : ∀ l : List UInt8, num (l ++ [b]) = num l + 128 ^ l.length * (b.toNat % 128)
  | [] => by simp [num]
  | c :: l => by
    simp only [List.cons_append, num, num_snoc b l, List.length_cons, Nat.pow_succ]
    rw [Nat.mul_add, Nat.mul_comm (128 ^ l.length) 128, Nat.mul_assoc]; omega
theorem cend_some {l : List UInt8} : ∀ {f i k : Nat}, cend l f i = some k → i ≤ k ∧ k < i + f ∧ k < l.length
  | 0, _, _, h => by simp [cend] at h
  | f + 1, i, k, h => by
    unfold cend at h
    cases hl : l[i]? with
    | none => rw [hl] at h; cases h
    | some b =>
      rw [hl] at h
      simp only [] at h
      have hi : i < l.length := (List.getElem?_eq_some_iff.1 hl).1
      split at h
      · injection h with h; omega
      · have := cend_some h; omega
theorem cput_len (n : Nat) (h : n ≤ 1073741824) : (cput n).length ≤ 5 := by
  rw [cput]; split
  · simp
  · rw [cput]; split
    · simp
    · rw [cput]; split
      · simp
      · rw [cput]; split
        · simp
        · rw [cput]; split
          · simp
          · exfalso; omega
theorem cput_ne (n : Nat) : cput n ≠ [] := by rw [cput]; split <;> simp
theorem put_ne {n : Int} : put n ≠ [] ↔ 0 ≤ n ∧ n ≤ 1073741824 := by
  unfold put; split
  · simp [cput_ne, *]
  · simp [*]
theorem put_len (n : Int) : (put n).length ≤ 5 := by
  unfold put; split
  · exact cput_len _ (by omega)
  · simp
end Sp
theorem or128 (x y : Nat) (hx : x < 4294967296) (hy : y < 128) : bits .or .i64 ((x : Int) * 128) (y : Int) = ((128 * x + y : Nat) : Int) := by
  have h := (bits_nat .i64 63 (by decide) (fun n h0 h1 => IntWalk.i64_in n (by omega)) (128 * x) y (by omega) (by omega)).2
  rw [show (x : Int) * 128 = ((128 * x : Nat) : Int) by omega, h]
  have : (128 * x) ||| y = 128 * x + y := by
    have := Nat.two_pow_add_eq_or_of_lt (i := 7) hy x
    simpa using this.symm
  rw [this]
end Go.Proofs.YteiblfcehlibpaaGreatDoor
namespace Go.Proofs.YteiblfcehlibpaaGreatDoor
open Go.RowKit

theorem indexByte_mem (c : UInt8) : ∀ l : List UInt8, -1 ≤ Lib.indexByte l c ∧ (0 ≤ Lib.indexByte l c ↔ c ∈ l)
  | [] => by simp [Lib.indexByte]
  | b :: l => by
    have ih := indexByte_mem c l
    unfold Lib.indexByte
    by_cases h : b = c
    · subst h; simp
    · have h' : (b == c) = false := by simpa using h
      rw [h']
      by_cases e : Lib.indexByte l c = -1
      · simp only [Bool.false_eq_true, if_false, beq_iff_eq, e, if_true, List.mem_cons]
        refine ⟨by omega, by constructor; omega; rintro (rfl | hm); exact absurd rfl h; have := ih.2.2 hm; omega⟩
      · simp only [Bool.false_eq_true, if_false, beq_iff_eq, e, List.mem_cons]
        refine ⟨by omega, ?_⟩
        rw [← ih.2]
        constructor
        · intro _; right; omega
        · rintro (rfl | hm); exact absurd rfl h; omega
theorem index_wild (c : UInt8) : decide (0 ≤ Lib.indexByte [46, 95, 45, 42, 63] c) = (c == 46 || c == 95 || c == 45 || c == 42 || c == 63) := by
  rw [Bool.eq_iff_iff, decide_eq_true_eq, (indexByte_mem c _).2]; simp [or_assoc]

set_option maxHeartbeats 400000 in
theorem wild_calls (c : UInt8) (w : World) : Calls Tryz.prog 184 #[.int .u8 c.toNat] w fun e w' => e = .returned (.bool (Sp.wild c)) ∧ w = w' := by
  have hw : Sp.wild c = (Sp.low c || decide (0 ≤ Lib.indexByte [46, 95, 45, 42, 63] c)) := by
    rw [index_wild]; unfold Sp.wild Sp.sign; simp [Bool.or_assoc]
  have HW := Lib.hid hw
  clear hw
  have b := byte_lt c
  go_enter Tryz.func184, Tryz.ntmps184
  go_wp2_with (go_at_call 213; refine (Tryz.strings_IndexByte _ _ _).mono ?_; rintro e w' ⟨rfl, rfl⟩)
  all_goals
    go_ret
    exact ⟨ret_bool (by
      rw [HW.out, Bool.eq_iff_iff]
      simp only [Sp.low, Bool.or_eq_true, Bool.and_eq_true, decide_eq_true_eq, UInt8.le_iff_toNat_le]
      simp [*] <;> omega), rfl⟩

set_option maxHeartbeats 400000 in
theorem piece_calls (s : ByteArray) (w : World) (hsh : ∃ m, w.cell? ⟨0, 0, none⟩ = some (.int .i64 m)) (hs : s.size < 4294967281) : Calls Tryz.prog 146 #[.string s] w fun e w' => e = .returned (.bool (Sp.piece s.data.toList)) ∧ w = w' := by
  go_enter Tryz.func146, Tryz.ntmps146
  go_wp2
  go_loop [3, 6] (fun t i => ∃ k : Nat, k ≤ s.size ∧ i = .int .i64 k ∧ (s.data.toList.take k).all Sp.wild = true) (fun _ i => s.size - (intOf i).toNat)
  case atStart => exact ⟨0, Nat.zero_le _, rfl, rfl⟩
  case round =>
    obtain ⟨k, hk, rfl, hall⟩ := hrel
    by_cases hlt : k < s.size
    · have ht := Lib.hid (take_all s k hlt Sp.wild hall)
      go_wp2_with (go_at_call 184; refine (wild_calls _ _).mono ?_; rintro e w' ⟨rfl, rfl⟩)
      · have hn : (!Sp.wild s[k]) = true := by assumption
        go_ret
        exact ⟨ret_bool (by unfold Sp.piece; rw [all_no s k hlt Sp.wild (by simpa using hn)]; rfl), rfl⟩
      · have hn : (!Sp.wild s[k]) = false := by assumption
        go_round
        case rel => exact ⟨k + 1, by omega, by go_num, by rw [ht.out]; simpa using hn⟩
        case measure => simp [intOf]; omega
    · have hk' : k = s.size := by omega
      subst hk'
      rw [take_size] at hall
      have H := Lib.hid hall
      clear hall
      have hp : Sp.piece s.data.toList = (decide (s.toList ≠ []) && (decide (s.toList = [42, 42]) || !Lib.contains s.data.toList [42, 42])) := by
        rw [toList_data, Sp.contains_two]; unfold Sp.piece; rw [H.out]; rfl
      have HP := Lib.hid hp
      clear hp
      obtain ⟨m, hm⟩ := hsh
      go_wp2_with (go_at_call 185; refine (Tryz.strings_Contains _ _ _ _ hs hm).mono ?_; rintro e w' ⟨rfl, rfl⟩)
      all_goals
        go_ret
        exact ⟨ret_bool (by rw [HP.out, Bool.eq_iff_iff]; simp [*]), rfl⟩
end Go.Proofs.YteiblfcehlibpaaGreatDoor
namespace Go.Proofs.YteiblfcehlibpaaGreatDoor
open Go.RowKit
theorem right_calls (n : Int) (w : World) : Calls Tryz.prog 254 #[.int .i64 n] w fun e w' => e = .returned (.bool (decide (0 ≤ n ∧ n ≤ 1073741824))) ∧ w = w' := by
  by_cases h0 : 0 ≤ n
  · have e1 : decide (0 ≤ n) = true := decide_eq_true h0
    have F := Lib.hid (show decide (0 ≤ n ∧ n ≤ 1073741824) = decide (n ≤ 1073741824) by rw [decide_eq_decide]; omega)
    clear h0
    go_enter Tryz.func254, Tryz.ntmps254
    go_wp2_with fail
    go_ret
    exact ⟨ret_bool F.out.symm, rfl⟩
  · have e1 : decide (0 ≤ n) = false := decide_eq_false h0
    have F := Lib.hid (show decide (0 ≤ n ∧ n ≤ 1073741824) = false by rw [decide_eq_false_iff_not]; omega)
    clear h0
    go_enter Tryz.func254, Tryz.ntmps254
    go_wp2_with fail
    go_ret
    exact ⟨ret_bool F.out.symm, rfl⟩
/-- What end hands back. -/
def endV : Option Nat → Int
  | none => -1
  | some k => k
theorem get_of (s : ByteArray) (k : Nat) (h : k < s.size) : s.data.toList[k]? = some s[k] := by
  rw [List.getElem?_eq_getElem (by simpa using h)]; rfl
theorem lt128 (b : UInt8) : decide ((b.toNat : Int) < 128) = decide (b.toNat < 128) := by rw [decide_eq_decide]; omega
theorem w64 (x : Int) (h0 : -9223372036854775808 ≤ x) (h1 : x ≤ 9223372036854775807) : wrap64 x = x := by unfold wrap64; omega
theorem w64b (b : UInt8) : wrap64 (b.toNat : Int) = (b.toNat : Int) := w64 _ (by omega) (by have := b.toNat_lt; omega)
theorem tmodb (b : UInt8) : (b.toNat : Int).tmod 128 = (b.toNat : Int) % 128 := Int.tmod_eq_emod_of_nonneg (Int.natCast_nonneg _)
/-- What Take hands back. -/
def takeV (r : Nat × Nat × Int) : Value := .tuple #[.int .i64 r.1, .int .i64 r.2.1, .int .i64 r.2.2]
theorem num_drop (s : ByteArray) (m k : Nat) (h : k < m) (hm : m ≤ s.size) : Sp.num ((s.data.toList.take m).drop k) = (s[k]'(by omega)).toNat % 128 + 128 * Sp.num ((s.data.toList.take m).drop (k + 1)) := by
  rw [List.drop_eq_getElem_cons (by simp; omega), Sp.num]
  congr 2
  simp
  rfl
theorem num_drop_lt (s : ByteArray) (m k : Nat) (hk : m ≤ k + 4) : Sp.num ((s.data.toList.take m).drop k) < 4294967296 := by
  have h := Sp.num_lt ((s.data.toList.take m).drop k)
  have h2 : ((s.data.toList.take m).drop k).length ≤ 4 := by simp; omega
  have h3 : 128 ^ ((s.data.toList.take m).drop k).length ≤ 128 ^ 4 := Nat.pow_le_pow_right (by decide) h2
  omega
theorem num_take (s : ByteArray) (k : Nat) (h : k < s.size) : Sp.num (s.data.toList.take (k + 1)) = Sp.num (s.data.toList.take k) + 128 ^ k * ((s[k]).toNat % 128) := by
  have hk : (s.data.toList.take k).length = k := by rw [List.length_take]; simp; omega
  rw [List.take_add_one, get_of s k h, Option.toList_some, Sp.num_snoc, hk]
end Go.Proofs.YteiblfcehlibpaaGreatDoor
