/- Small lemmas for the walks; no program. What the walk meets: a slice that is made; one of its elements that is written. The plain law of chapters 4 and 44: names, pieces, paths, patterns, over lists of bytes; no program. What the walk meets: a variable in memory, a block of its own. What lies in memory: slices of dots, versions, entries; plain words and small lemmas. Vectors: plain. Bytes in a block, turned into a text. What lies in memory: versions. Leaves: plain. What a number's bytes are: plain. Walks: a number that is read, and the reference's. A range over a function that tells a list, and that writes a variable of its own meanwhile; the body goes through all of it. -/
import Derived.WalkKit
import Derived.Lib.Hide
import Derived.Below
import Derived.Deep.Draws
import Derived.Deep.QuietTactic
import Derived.BigQuiet
import Derived.Deep.RegionHeld3
import Derived.Lib.Strings
import Derived.Lib.IndexBytes
import Derived.Lib.Split
import Derived.Lib.SplitLaws
import Derived.Lib.CountLaws
import Derived.Test.YtmlfnidckfeebaaGreatDoorProg
import Derived.Laws.BytesArg
import Derived.Laws.BitsLemmas
import Derived.Test.YtmlfnidckfeebaaGreatDoorShelf
import Derived.RangeFuncNested
import Derived.RangeFuncBound
import Derived.RangeFuncCalls
import Derived.RangeFuncLeaves
namespace Go.Proofs.YtmlfnidckfeebaaGreatDoor
open Go.RowKit

theorem ret_bool {a b : Bool} (h : a = b) : Ending.returned (.bool a) = .returned (.bool b) := by rw [h]
theorem ret_int {k : IntKind} {a b : Int} (h : a = b) : Ending.returned (.int k a) = .returned (.int k b) := by rw [h]
theorem toList_data (s : ByteArray) : s.toList = s.data.toList := ByteArray.toList_eq s
theorem take_snoc (s : ByteArray) (k : Nat) (h : k < s.size) : s.data.toList.take (k + 1) = s.data.toList.take k ++ [s[k]] := by
  rw [List.take_succ_eq_append_getElem (by simpa using h)]; rfl
theorem take_size (s : ByteArray) : s.data.toList.take s.size = s.data.toList := List.take_of_length_le (by simp)
theorem take_all (s : ByteArray) (k : Nat) (h : k < s.size) (p : UInt8 → Bool) (ha : (s.data.toList.take k).all p = true) : (s.data.toList.take (k + 1)).all p = p s[k] := by
  rw [take_snoc s k h, List.all_append, ha]; simp
theorem all_no (s : ByteArray) (k : Nat) (h : k < s.size) (p : UInt8 → Bool) (hp : p s[k] = false) : s.data.toList.all p = false := by
  rw [List.all_eq_false]; exact ⟨s[k], Array.getElem_mem_toList _, by simp [hp]⟩
/-- What append asks of a slice type t of elements e, 'size' cells and 'bytes' bytes each. -/
def AppStat (P : Program) (t e : TypeId) (size bytes : Nat) : Prop :=
  P.underlying t = some (.slice e) ∧ 0 < size ∧ 0 < bytes ∧ ∃ i z, P.info? e = some i ∧ i.zero = some z ∧ i.size = size ∧ i.bytes = bytes ∧ z.cells.size = size

section
variable {P : Program} {ops : Array Oper} {rest : List Oper} {o : Oper} {a : Act} {Q : Exit → Act → World → Prop} {w : World}

theorem owned_form {base : Nat} {e : TypeId} {size n : Nat} {v : Value} {xs : List Value} (h : w.ownsRow base e size v n xs) (hn : 0 < n) : ∃ g cap, v = .slice (some ⟨g, 0, none⟩) n cap ∧ base ≤ g := by
  rcases h.2 with ⟨_, h0⟩ | ⟨g, cap, cur, rfl, hg, _⟩
  · omega
  · exact ⟨g, cap, rfl, hg⟩

/-- 'append(s, x ..)' of what was just built, onto a slice of the call's own. -/
theorem app_new {t e : TypeId} {size bytes : Nat} (hst : AppStat P t e size bytes) (hgd : o.guard = none) (s x : Operand) (ho : o.op = .call { callee := .builtin .append, args := #[s, x], argTypes := #[t, t] })
    (base : Nat) (v : Value) (n : Nat) (xs : List Value) (hs : a.eval s = v) (hown : w.ownsRow base e size v n xs) (cs : Array Value) (ty : TypeId) (m : Nat)
    (hx : a.eval x = .slice (some ⟨w.heap.size, 0, none⟩) m m) (hl : cs.size = m * size) (h1 : ∀ u ∈ cs.toList, u.oneCell' = true) (hm : 0 < m) (hcap : (n + m) * bytes ≤ 140737488355328) (hbase : base ≤ w.heap.size)
    (h : ∀ g cap w', w'.ownsRow base e size (.slice (some ⟨g, 0, none⟩) (n + m) cap) (n + m) (xs ++ cs.toList) → w.grownBy w' v.ownBlock → Below base w w' → base ≤ g → wpList P ops Q rest (a.put o.dst (.slice (some ⟨g, 0, none⟩) (n + m) cap)) w') :
    wpList P ops Q (o :: rest) a (w.alloc (.cells cs ty)) := by
  obtain ⟨ht, hz0, hb0, i, z, hi, hz, hsz, hby, hzs⟩ := hst
  have hmax : n + m ≤ maxLen := by
    have : n + m ≤ (n + m) * bytes := Nat.le_mul_of_pos_right _ hb0
    unfold maxLen; omega
  refine wpList_append_own _ hgd s x t ho base e i z size bytes ht hi hz hsz hby hzs hz0 v n xs hs (hown.alloc _) ⟨w.heap.size, 0, none⟩ m m cs.toList hx (by simpa using hl) ?_ h1 hmax hcap (by simp; omega) ?_
  · intro j u hj
    rw [show (⟨w.heap.size, 0, none⟩ : Addr).add j = ⟨w.heap.size, 0 + j, none⟩ from by simp [Addr.add]; omega, cell_of_row _ w.heap.size (0 + j) cs ty (0, 0) (heap_alloc_new w _)]
    simpa using hj
  · intro v' w' hown' hg _
    obtain ⟨g, cap, rfl, hgb⟩ := owned_form hown' (by omega)
    have hg' : w.grownBy w' v.ownBlock := ⟨hg.os, hg.tape, hg.output, Nat.le_trans (by simp) hg.size, fun k hk hne => (hg.block k (by simp; omega) hne).trans (Below.heap_alloc w _ k hk)⟩
    refine h g cap w' hown' hg' ((Below.refl _ _).grown hg' hbase fun k hk => ?_) hgb
    exact (hown.lt k hk).1
end

theorem byte_lt (c : UInt8) : (0 : Int) ≤ c.toNat ∧ (c.toNat : Int) < 256 := by have := c.toNat_lt; omega

end Go.Proofs.YtmlfnidckfeebaaGreatDoor
namespace Go.Proofs.YtmlfnidckfeebaaGreatDoor
open Go.RowKit

section
variable {P : Program} {ops : Array Oper} {rest : List Oper} {o : Oper} {a : Act} {Q : Exit → Act → World → Prop} {w : World}

end

theorem owned_get {w : World} {base g n cap : Nat} {e : TypeId} {xs : List Value} (h : w.ownsRow base e 1 (.slice (some ⟨g, 0, none⟩) n cap) n xs) (j : Nat) (hj : j < n) (hl : j < xs.length) : w.cell? ⟨g, j, none⟩ = some xs[j] := by
  rw [h.cellAt j (by omega), List.getElem?_eq_getElem hl]
theorem owned_below {w w' : World} {base g n cap : Nat} {e : TypeId} {size : Nat} {xs : List Value} (h : w.ownsRow base e size (.slice (some ⟨g, 0, none⟩) n cap) n xs) (hb : Below w.heap.size w w') : w'.ownsRow base e size (.slice (some ⟨g, 0, none⟩) n cap) n xs := by
  have hl := (h.lt g rfl).2
  refine ⟨h.1, ?_⟩
  rcases h.2 with hn | ⟨g', cap', cur, hv, hbg, hgg, rest⟩
  · exact .inl hn
  · refine .inr ⟨g', cap', cur, hv, hbg, ?_, rest⟩
    cases hv
    rw [hb.block _ hl]; exact hgg
theorem owned_drew {w : World} {base n : Nat} {e : TypeId} {size : Nat} {v : Value} {xs : List Value} (h : w.ownsRow base e size v n xs) : w.drew.ownsRow base e size v n xs := h
end Go.Proofs.YtmlfnidckfeebaaGreatDoor
namespace Go.Proofs.YtmlfnidckfeebaaGreatDoor.Sp

abbrev Bs := List UInt8

def low (c : UInt8) : Bool := decide (97 ≤ c) && decide (c ≤ 122) || decide (48 ≤ c) && decide (c ≤ 57)
/-- A byte that may stand in a name. -/
def sign (c : UInt8) : Bool := low c || c == 46 || c == 95 || c == 45
def name (s : Bs) : Bool := decide (s ≠ []) && decide (s.length ≤ 12) && decide (s ≠ [46]) && decide (s ≠ [46, 46]) && s.all sign

/-- What stands between the slashes. -/
def split : Bs → List Bs
  | [] => [[]]
  | c :: r => if c = 47 then [] :: split r else match split r with
    | h :: t => (c :: h) :: t
    | [] => [[c]]

theorem split_ne (s : Bs) : split s ≠ [] := by
  cases s with
  | nil => simp [split]
  | cons c r => unfold split; split; simp; split <;> simp

def parts (s : Bs) : List Bs :=
  if 51 < s.length then [] else if 4 < (split s).length then [] else if (split s).all name then split s else []
def check (s : Bs) : Int := if 51 < s.length then 2 else if (parts s).length = 0 then 1 else 0

theorem index_one (c : UInt8) (r : Bs) : Lib.index (c :: r) [47] = if c = 47 then 0 else if Lib.index r [47] = -1 then -1 else Lib.index r [47] + 1 := by
  rw [Lib.index]
  by_cases h : c = 47
  · subst h; simp
  · have : ([47] : Bs).isPrefixOf (c :: r) = false := by simp [List.isPrefixOf]; exact fun e => h e.symm
    rw [this]; simp [h]
theorem index_ge (r : Bs) : -1 ≤ Lib.index r [47] := by
  induction r with
  | nil => simp [Lib.index]
  | cons c r ih => rw [index_one]; (repeat' split) <;> omega
theorem splitK_split (s : Bs) : Lib.splitK [47] 0 (s.count 47) s = split s := by
  induction s with
  | nil => rfl
  | cons c r ih =>
    by_cases h : c = 47
    · subst h
      rw [List.count_cons_self, Lib.splitK, index_one]
      simp [split, ih]
    · rw [List.count_cons_of_ne h]
      unfold split
      rw [if_neg h, ← ih]
      cases hk : r.count 47 with
      | zero => simp [Lib.splitK]
      | succ k =>
        have hi : Lib.index r [47] ≠ -1 := fun e => by
          have := Lib.count_miss e; rw [Lib.count_one] at this; omega
        have hg := index_ge r
        rw [Lib.splitK, Lib.splitK, index_one, if_neg h, if_neg hi]
        obtain ⟨i, hi'⟩ : ∃ i : Nat, Lib.index r [47] = i := ⟨(Lib.index r [47]).toNat, by omega⟩
        rw [hi']
        rw [if_neg (by simp <;> omega), if_neg (by simp <;> omega)]
        simp only [Int.toNat_natCast, Nat.add_zero, List.length_singleton]
        rw [show ((i : Int) + 1).toNat = i + 1 from by omega]
        simp
theorem split_lib (s : ByteArray) : (Lib.splitB ⟨#[47]⟩ 0 (Lib.countB s ⟨#[47]⟩) s).map (·.data.toList) = split s.data.toList := by
  rw [Lib.splitB_data, ← splitK_split, ← Lib.count_one]
theorem split_len (s : ByteArray) : (Lib.splitB ⟨#[47]⟩ 0 (Lib.countB s ⟨#[47]⟩) s).length = (split s.data.toList).length := by rw [← split_lib, List.length_map]
theorem countB_split (s : ByteArray) : Lib.countB s ⟨#[47]⟩ + 1 = (split s.data.toList).length := by
  have h : ∀ l : Bs, l.count 47 + 1 = (split l).length := by
    intro l
    induction l with
    | nil => rfl
    | cons c r ih =>
      unfold split
      by_cases h : c = 47
      · subst h; simp [← ih]
      · rw [if_neg h, List.count_cons_of_ne h, ih]; split <;> simp_all
  rw [← h, ← Lib.count_one]
theorem split_mem_le (s : Bs) : ∀ x ∈ split s, x.length ≤ s.length := by
  induction s with
  | nil => simp [split]
  | cons c r ih =>
    unfold split
    split
    · intro x hx
      rcases List.mem_cons.1 hx with rfl | hx
      · simp
      · have := ih x hx; simp; omega
    · split
      · rename_i h t e
        intro x hx
        rw [e] at ih
        rcases List.mem_cons.1 hx with rfl | hx
        · have := ih h (by simp); simp; omega
        · have := ih x (by simp [hx]); simp; omega
      · intro x hx; simp at hx; subst hx; simp
end Go.Proofs.YtmlfnidckfeebaaGreatDoor.Sp
namespace Go.Proofs.YtmlfnidckfeebaaGreatDoor
open Go.RowKit
/-- Block g is such cells. -/
abbrev isBlk (w : World) (g : Nat) (t : TypeId) (cs : Array Value) : Prop := w.heap[g]? = some (.cells cs t (0, 0))
section
variable {P : Program} {ops : Array Oper} {rest : List Oper} {o : Oper} {a : Act} {Q : Exit → Act → World → Prop} {w : World}
theorem box_new {cs : Array Value} {t : TypeId} (hgd : o.guard = none)
    (hrun : (execOp a.eval o).run P w = .ok (.value (.pointer (some ⟨w.heap.size, 0, none⟩))) (w.alloc (.cells cs t (0, 0))))
    (h : ∀ g w', w.heap.size ≤ g → isBlk w' g t cs → Below w.heap.size w w' → wpList P ops Q rest (a.put o.dst (.pointer (some ⟨g, 0, none⟩))) w') : wpList P ops Q (o :: rest) a w := by
  refine wpList_plain hgd fun K hK => ?_
  unfold Oper.wp
  rw [hrun]
  exact hK _ _ (h w.heap.size _ (Nat.le_refl _) (heap_alloc_new w _) ((Below.refl _ _).alloc (Nat.le_refl _) _))
/-- For an arm of the walk's: this operation is an allocation of type t. -/
theorem at_alloc {t : TypeId} (_ho : o.op = .alloc t) (h : wpList P ops Q (o :: rest) a w) : wpList P ops Q (o :: rest) a w := h
theorem at_box {t : TypeId} {x : Operand} (_ho : o.op = .box t x) (h : wpList P ops Q (o :: rest) a w) : wpList P ops Q (o :: rest) a w := h
end
theorem isBlk.lt {w : World} {g : Nat} {t : TypeId} {cs : Array Value} (h : isBlk w g t cs) : g < w.heap.size := by
  rcases Nat.lt_or_ge g w.heap.size with h1 | h1
  · exact h1
  · rw [isBlk, Array.getElem?_eq_none h1] at h; cases h
theorem isBlk.cell {w : World} {g : Nat} {t : TypeId} {cs : Array Value} (h : isBlk w g t cs) (i : Nat) : w.cell? ⟨g, i, none⟩ = cs[i]? := cell_of_row w g i cs t (0, 0) h
theorem isBlk.at {w : World} {g : Nat} {t : TypeId} {cs : Array Value} (h : isBlk w g t cs) (i : Nat) (hi : i < cs.size) : w.cell? ⟨g, i, none⟩ = some cs[i] := by rw [h.cell i, Array.getElem?_eq_getElem hi]
theorem isBlk.frozen {w : World} {g : Nat} {t : TypeId} {cs : Array Value} (h : isBlk w g t cs) (i : Nat) : w.frozen? ⟨g, i, none⟩ = false := by simp [World.frozen?, h]
theorem isBlk.shape {w : World} {g : Nat} {t : TypeId} {cs : Array Value} (h : isBlk w g t cs) : w.shape? g = some (t, cs.size) := by simp [World.shape?, h]
theorem isBlk.below {w w1 : World} {g : Nat} {t : TypeId} {cs : Array Value} (h : isBlk w g t cs) (hb : Below w.heap.size w w1) : isBlk w1 g t cs := (hb.block g h.lt).trans h
theorem isBlk.drew {w : World} {g : Nat} {t : TypeId} {cs : Array Value} (h : isBlk w g t cs) : isBlk w.drew g t cs := h
theorem isBlk.alloc {w : World} {g : Nat} {t : TypeId} {cs : Array Value} (h : isBlk w g t cs) (o : Obj) : isBlk (w.alloc o) g t cs := (Below.heap_alloc w o g h.lt).trans h
theorem isBlk.put {w : World} {g : Nat} {t : TypeId} {cs cs' : Array Value} (h : isBlk w g t cs) (i : Nat) (u : Value) (e : cs.setIfInBounds i u = cs') : isBlk (w.setCell ⟨g, i, none⟩ u) g t cs' := by
  subst e
  have hl := h.lt
  unfold isBlk World.setCell at *
  rw [Array.getElem?_eq_getElem hl] at h
  rw [Array.getElem?_eq_getElem (by simpa using hl), Array.getElem_modify]
  simp only [Option.some.injEq] at h ⊢
  simp [h]
theorem isBlk.far {w : World} {g g2 j : Nat} {t : TypeId} {cs : Array Value} (h : isBlk w g t cs) (hne : g ≠ g2) (u : Value) : isBlk (w.setCell ⟨g2, j, none⟩ u) g t cs := by
  unfold isBlk; rw [Below.heap_setCell _ _ _ _ hne]; exact h
/-- What was there ahead of a call that makes memory only is there behind it. -/
theorem cellKept {W W' : World} {a : Addr} {v : Value} (h : W.cell? a = some v) (k : Below W.heap.size W W') : W'.cell? a = some v := by
  rw [k.cell (World.block_lt_of_cell? _ _ h)]; exact h
end Go.Proofs.YtmlfnidckfeebaaGreatDoor
namespace Go.Proofs.YtmlfnidckfeebaaGreatDoor
open Go.RowKit
theorem bcell {W w1 : World} (hb : Below W.heap.size W w1) : (∀ b o, b < W.heap.size → w1.cell? ⟨b, o, none⟩ = W.cell? ⟨b, o, none⟩) ∧ (∀ b o, b < W.heap.size → w1.frozen? ⟨b, o, none⟩ = W.frozen? ⟨b, o, none⟩) :=
  ⟨fun b o h => hb.cell (p := ⟨b, o, none⟩) h, fun b o h => hb.frozen (p := ⟨b, o, none⟩) h⟩
/-- What was there is as it was. -/
abbrev Ext (w w' : World) : Prop := Below w.heap.size w w'
theorem Ext.trans {a b c : World} (h : Ext a b) (k : Ext b c) : Ext a c := Below.trans h (k.mono h.size)
/-- What is below a call's start stays over what the call's own steps did. -/
theorem _root_.Go.RowKit.Below.from {B : Nat} {a b c : World} (k : Below B b c) (h : Below B a b) : Below B a c := h.trans k
theorem Ext.alloc (w : World) (o : Obj) : Ext w (w.alloc o) := (Below.refl _ _).alloc (Nat.le_refl _) _
theorem Ext.refl (w : World) : Ext w w := Below.refl _ _
theorem cell_lt {w : World} {g o : Nat} {v : Value} (h : w.cell? ⟨g, o, none⟩ = some v) : g < w.heap.size := by
  rcases Nat.lt_or_ge g w.heap.size with h1 | h1
  · exact h1
  · simp [World.cell?, Array.getElem?_eq_none h1] at h
theorem Ext.cell {w w' : World} {g o : Nat} {v : Value} (e : Ext w w') (h : w.cell? ⟨g, o, none⟩ = some v) : w'.cell? ⟨g, o, none⟩ = some v := (Below.cell e (p := ⟨g, o, none⟩) (cell_lt h)).trans h
/-- The cells at A read as cs. -/
def Cells (w : World) (A : Option Addr) (cs : List Value) : Prop := cs ≠ [] → ∃ g o, A = some ⟨g, o, none⟩ ∧ ∀ (i : Nat) u, cs[i]? = some u → w.cell? ⟨g, o + i, none⟩ = some u
theorem Cells.ext {w w' : World} {A : Option Addr} {cs : List Value} (h : Cells w A cs) (e : Ext w w') : Cells w' A cs := fun hn => by
  obtain ⟨g, o, hA, hc⟩ := h hn
  exact ⟨g, o, hA, fun i u hi => e.cell (hc i u hi)⟩
theorem Cells.nil (w : World) (A : Option Addr) : Cells w A [] := fun h => absurd rfl h
/-- A row of the call's own, read. -/
theorem Cells.own {w : World} {B g n cap : Nat} {t : TypeId} {size : Nat} {cs : List Value} (h : w.ownsRow B t size (.slice (some ⟨g, 0, none⟩) n cap) n cs) : Cells w (some ⟨g, 0, none⟩) cs := fun _ =>
  ⟨g, 0, rfl, fun i u hi => by have := h.cells (g := g) rfl i u hi; rw [Nat.zero_add]; cases i <;> simpa [Addr.add] using this⟩
namespace Sp
abbrev Dot := Int × Int
/-- What one change made of a path. -/
structure Ver where
  dot : Dot
  past : List Dot
  dead : Bool
  data : Bs
deriving DecidableEq, Inhabited
end Sp
abbrev dotV (d : Sp.Dot) : Value := .agg #[.int .i64 d.1, .int .i64 d.2]
/-- Dots, cell by cell. -/
def dotsC : List Sp.Dot → List Value
  | [] => []
  | d :: r => .int .i64 d.1 :: .int .i64 d.2 :: dotsC r
theorem dotsC_len (l : List Sp.Dot) : (dotsC l).length = l.length * 2 := by
  induction l with
  | nil => rfl
  | cons d r ih => simp only [dotsC, List.length_cons, ih]; omega
theorem dotsC_get (l : List Sp.Dot) (k : Nat) (h : k < l.length) : (dotsC l)[k * 2]? = some (.int .i64 l[k].1) ∧ (dotsC l)[k * 2 + 1]? = some (.int .i64 l[k].2) := by
  induction l generalizing k with
  | nil => simp at h
  | cons d r ih =>
    cases k with
    | zero => simp [dotsC]
    | succ k =>
      have := ih k (by simpa using h)
      simp only [dotsC, show (k + 1) * 2 = k * 2 + 1 + 1 by omega, List.getElem?_cons_succ, List.getElem_cons_succ]
      exact this
def Dots (w : World) (A : Option Addr) (l : List Sp.Dot) : Prop := Cells w A (dotsC l)
theorem Dots.ext {w w' : World} {A : Option Addr} {l : List Sp.Dot} (h : Dots w A l) (e : Ext w w') : Dots w' A l := Cells.ext h e
theorem Dots.at {w : World} {A : Option Addr} {l : List Sp.Dot} (h : Dots w A l) (hn : 0 < l.length) : ∃ g o, A = some ⟨g, o, none⟩ ∧ ∀ k (h : k < l.length), w.cell? ⟨g, o + k * 2, none⟩ = some (.int .i64 l[k].1) ∧ w.cell? ⟨g, o + k * 2 + 1, none⟩ = some (.int .i64 l[k].2) := by
  have hl := dotsC_len l
  obtain ⟨g, o, hA, hc⟩ := h (by intro e; rw [e] at hl; simp at hl; omega)
  exact ⟨g, o, hA, fun k hk => ⟨hc _ _ (dotsC_get l k hk).1, by rw [Nat.add_assoc]; exact hc _ _ (dotsC_get l k hk).2⟩⟩
end Go.Proofs.YtmlfnidckfeebaaGreatDoor
namespace Go.Proofs.YtmlfnidckfeebaaGreatDoor
namespace Sp
/-- Why a dot may not be. -/
def dot (d : Dot) : Int := if d.1 < 0 ∨ 64 ≤ d.1 then 11 else if d.2 < 1 ∨ 1048576 < d.2 then 12 else 0
/-- Why dots are no vector. -/
def vgo : Int → List Dot → Int
  | _, [] => 0
  | last, d :: r => if dot d ≠ 0 then dot d else if d.1 ≤ last then 8 else vgo d.1 r
def vcheck (l : List Dot) : Int := vgo (-1) l
/-- The count of a peer. -/
def vfind (p : Int) : List Dot → Int
  | [] => 0
  | d :: r => if d.1 = p then d.2 else vfind p r
def vget (v : List Dot) (p : Int) : Int := if vcheck v ≠ 0 then 0 else vfind p v
def vhas (v : List Dot) (d : Dot) : Bool := decide (1 ≤ d.2) && decide (d.2 ≤ vget v d.1)
theorem dot_ok {d : Dot} : dot d = 0 ↔ 0 ≤ d.1 ∧ d.1 < 64 ∧ 1 ≤ d.2 ∧ d.2 ≤ 1048576 := by
  unfold dot
  split
  · constructor
    · intro h; omega
    · intro h; omega
  · split
    · constructor
      · intro h; omega
      · intro h; omega
    · constructor
      · intro _; omega
      · intro _; rfl
theorem vgo_ok : ∀ (l : List Dot) (last : Int), vgo last l = 0 ↔ (∀ d ∈ l, dot d = 0 ∧ last < d.1) ∧ l.Pairwise (fun a b => a.1 < b.1)
  | [], _ => by simp [vgo]
  | d :: r, last => by
    have ih := vgo_ok r d.1
    rw [vgo]
    by_cases h1 : dot d = 0
    · rw [if_neg (by simpa using h1)]
      by_cases h2 : d.1 ≤ last
      · rw [if_pos h2]
        constructor
        · intro h; cases h
        · intro h; have := (h.1 d (by simp)).2; omega
      · rw [if_neg h2, ih]
        constructor
        · rintro ⟨a, b⟩
          refine ⟨?_, List.pairwise_cons.2 ⟨fun x hx => (a x hx).2, b⟩⟩
          intro x hx
          rcases List.mem_cons.1 hx with rfl | hx
          · exact ⟨h1, by omega⟩
          · exact ⟨(a x hx).1, by have := (a x hx).2; omega⟩
        · rintro ⟨a, b⟩
          have b' := List.pairwise_cons.1 b
          exact ⟨fun x hx => ⟨(a x (by simp [hx])).1, b'.1 x hx⟩, b'.2⟩
    · rw [if_pos h1]
      constructor
      · intro h; exact absurd h h1
      · intro h; exact absurd (h.1 d (by simp)).1 h1
theorem vcheck_ok {l : List Dot} : vcheck l = 0 ↔ (∀ d ∈ l, dot d = 0) ∧ l.Pairwise (fun a b => a.1 < b.1) := by
  unfold vcheck
  rw [vgo_ok]
  constructor
  · rintro ⟨a, b⟩; exact ⟨fun d hd => (a d hd).1, b⟩
  · rintro ⟨a, b⟩; exact ⟨fun d hd => ⟨a d hd, by have := dot_ok.1 (a d hd); omega⟩, b⟩
theorem vcheck_one (d : Dot) : vcheck [d] = dot d := by
  unfold vcheck
  rw [vgo, vgo]
  by_cases h : dot d = 0
  · rw [if_neg (by simpa using h), if_neg (by have := dot_ok.1 h; omega), h]
  · rw [if_pos h]
theorem vfind_none (p : Int) : ∀ (l : List Dot), (∀ d ∈ l, d.1 ≠ p) → vfind p l = 0
  | [], _ => rfl
  | d :: r, h => by rw [vfind, if_neg (h d (by simp)), vfind_none p r fun x hx => h x (by simp [hx])]
theorem vfind_at (p : Int) : ∀ (l : List Dot) (i : Nat) (hi : i < l.length), l.Pairwise (fun a b => a.1 < b.1) → l[i].1 = p → vfind p l = l[i].2
  | d :: r, 0, _, _, h => by rw [vfind, if_pos (show d.1 = p from h)]; rfl
  | d :: r, i + 1, hi, hp, h => by
    have hp' := List.pairwise_cons.1 hp
    have hlt : i < r.length := by simpa using hi
    have h1 := hp'.1 r[i] (List.getElem_mem hlt)
    simp only [List.getElem_cons_succ] at h
    rw [vfind, if_neg (by omega), vfind_at p r i hlt hp'.2 h]
    rfl
/-- Of peers that there are not a vector has none. -/
theorem vget_out (v : List Dot) (p : Int) (h : p < 0 ∨ 64 ≤ p) : vget v p = 0 := by
  unfold vget
  split
  · rfl
  · rename_i hv
    refine vfind_none p v fun d hd => ?_
    have := dot_ok.1 ((vcheck_ok.1 (by simpa using hv)).1 d hd)
    omega
/-- Where a search comes out. -/
structure Cut (l : List Dot) (p : Int) (i : Nat) : Prop where
  le : i ≤ l.length
  lo : ∀ j (h : j < l.length), j < i → l[j].1 < p
  hi : ∀ j (h : j < l.length), i ≤ j → p ≤ l[j].1
theorem Cut.there {l : List Dot} {p : Int} {i : Nat} (_ : Cut l p i) (hp : l.Pairwise (fun a b => a.1 < b.1)) (hi : i < l.length) (h : l[i].1 = p) : vfind p l = l[i].2 := vfind_at p l i hi hp h
theorem Cut.gone {l : List Dot} {p : Int} {i : Nat} (c : Cut l p i) (hp : l.Pairwise (fun a b => a.1 < b.1)) (h : ∀ hi : i < l.length, l[i].1 ≠ p) : vfind p l = 0 := by
  refine vfind_none p l fun d hd e => ?_
  obtain ⟨j, hj, rfl⟩ := List.mem_iff_getElem.1 hd
  rcases Nat.lt_trichotomy j i with h1 | h1 | h1
  · have := c.lo j hj h1; omega
  · subst h1; exact h hj e
  · have hlt : i < l.length := by omega
    have h2 := List.pairwise_iff_getElem.1 hp i j hlt hj h1
    have h3 := c.hi i hlt (Nat.le_refl _)
    omega
end Sp
end Go.Proofs.YtmlfnidckfeebaaGreatDoor
namespace Go.Proofs.YtmlfnidckfeebaaGreatDoor

/-- A byte as a cell holds it. -/
def byteV (c : UInt8) : Value := .int .u8 c.toNat
theorem conv_cells {P : Program} {w : World} {src e dst : TypeId} (hs : P.underlying src = some (.slice e)) (he : P.underlying e = some (.int .u8)) (hd : P.underlying dst = some .string) (g o cap : Nat) (l : List UInt8)
    (hc : ∀ i, (h : i < l.length) → w.cell? ⟨g, o + i, none⟩ = some (byteV l[i])) : (convert src dst (.slice (some ⟨g, o, none⟩) l.length cap)).run P w = .ok (.string ⟨l.toArray⟩) w := by
  have := run_convert_bytes_arg (P := P) w src e hs he g o l.length cap (l.map fun c => (c.toNat : Int)) (by simp) (fun i hi => by
    rw [hc i hi]; simp [byteV, List.getD, hi]) dst hd
  rw [this]
  congr 3
  unfold strOfNums
  congr 2
  rw [List.map_map]
  conv => rhs; rw [← List.map_id l]
  congr 1
  funext c
  simp

/-- The text of such bytes. -/
def strOf (l : List UInt8) : ByteArray := ⟨l.toArray⟩
@[simp] theorem strOf_data (l : List UInt8) : (strOf l).data.toList = l := by simp [strOf]
theorem strOf_self (s : ByteArray) : strOf s.data.toList = s := by simp [strOf]
theorem strOf_size (l : List UInt8) : (strOf l).size = l.length := by simp [strOf, ByteArray.size]
theorem strOf_toList (l : List UInt8) : (strOf l).toList = l := by rw [toList_data, strOf_data]
/-- A conversion of bytes in a block to a text. -/
theorem conv_new {P : Program} {ops : Array Oper} {rest : List Oper} {o : Oper} {a : Act} {Q : Exit → Act → World → Prop} {w : World} {src e dst : TypeId} {x : Operand} (ho : o.op = .convert src dst x) (hgd : o.guard = none)
    (hs : P.underlying src = some (.slice e)) (he : P.underlying e = some (.int .u8)) (hd : P.underlying dst = some .string) (g off n cap : Nat) (l : List UInt8) (hx : a.eval x = .slice (some ⟨g, off, none⟩) n cap) (hn : n = l.length)
    (hc : ∀ i, (h : i < l.length) → w.cell? ⟨g, off + i, none⟩ = some (byteV l[i])) (h : wpList P ops Q rest (a.put o.dst (.string (strOf l))) w) : wpList P ops Q (o :: rest) a w := by
  subst hn
  refine wpList_plain hgd fun K hK => ?_
  unfold Oper.wp
  have hr : (execOp a.eval o).run P w = .ok (.value (.string (strOf l))) w := by
    simp only [execOp, ho, hx]
    simp [conv_cells (P := P) (w := w) hs he hd g off cap l hc, strOf]
  rw [hr]
  exact hK _ _ h

end Go.Proofs.YtmlfnidckfeebaaGreatDoor
namespace Go.Proofs.YtmlfnidckfeebaaGreatDoor
open Go.RowKit
theorem box_at (w : World) (cs : Array Value) (t : TypeId) : isBlk (w.alloc (.cells cs t)) w.heap.size t cs := heap_alloc_new _ _
/-- A version's five cells. -/
abbrev verC (A : Option Addr) (cap : Nat) (v : Sp.Ver) : Array Value := #[.int .i64 v.dot.1, .int .i64 v.dot.2, .slice A v.past.length cap, .bool v.dead, .string (strOf v.data)]
abbrev verV (A : Option Addr) (cap : Nat) (v : Sp.Ver) : Value := .agg (verC A cap v)
/-- Where a version's vector lies. -/
def Past (w : World) (A : Option Addr) (v : Sp.Ver) : Prop := Dots w A v.past ∧ v.past.length ≤ 140737488351232
theorem Past.ext {w w' : World} {A : Option Addr} {v : Sp.Ver} (h : Past w A v) (e : Ext w w') : Past w' A v := ⟨h.1.ext e, h.2⟩
/-- Versions, cell by cell; P: where each one's vector lies. -/
def versC : List (Option Addr × Nat × Sp.Ver) → List Value
  | [] => []
  | x :: r => (verC x.1 x.2.1 x.2.2).toList ++ versC r
theorem versC_len (l : List (Option Addr × Nat × Sp.Ver)) : (versC l).length = l.length * 5 := by
  induction l with
  | nil => rfl
  | cons d r ih => simp only [versC, List.length_append, ih, List.length_cons]; simp; omega
theorem versC_append (l m : List (Option Addr × Nat × Sp.Ver)) : versC (l ++ m) = versC l ++ versC m := by
  induction l with
  | nil => rfl
  | cons d r ih => simp [versC, ih]
theorem versC_get (l : List (Option Addr × Nat × Sp.Ver)) (k i : Nat) (h : k < l.length) (hi : i < 5) : (versC l)[k * 5 + i]? = (verC l[k].1 l[k].2.1 l[k].2.2)[i]? := by
  induction l generalizing k with
  | nil => simp at h
  | cons d r ih =>
    cases k with
    | zero => rw [versC, List.getElem?_append_left (by simp; omega)]; simp
    | succ k =>
      have := ih k (by simpa using h)
      rw [versC, List.getElem?_append_right (by simp; omega)]
      simp only [List.getElem_cons_succ]
      rw [← this]
      congr 1
      simp; omega
/-- A slice of versions. -/
def Vers (w : World) (A : Option Addr) (l : List Sp.Ver) : Prop := ∃ m : List (Option Addr × Nat × Sp.Ver), m.map (·.2.2) = l ∧ Cells w A (versC m) ∧ ∀ x ∈ m, Past w x.1 x.2.2
theorem Vers.ext {w w' : World} {A : Option Addr} {l : List Sp.Ver} (h : Vers w A l) (e : Ext w w') : Vers w' A l := by
  obtain ⟨m, h1, h2, h3⟩ := h
  exact ⟨m, h1, h2.ext e, fun x hx => (h3 x hx).ext e⟩
theorem Vers.nil (w : World) (A : Option Addr) : Vers w A [] := ⟨[], rfl, Cells.nil _ _, fun _ h => by cases h⟩
/-- The cells of the version at a place. -/
structure VerAt (w : World) (g o : Nat) (A : Option Addr) (cap : Nat) (v : Sp.Ver) : Prop where
  c0 : w.cell? ⟨g, o, none⟩ = some (.int .i64 v.dot.1)
  c1 : w.cell? ⟨g, o + 1, none⟩ = some (.int .i64 v.dot.2)
  c2 : w.cell? ⟨g, o + 2, none⟩ = some (.slice A v.past.length cap)
  c3 : w.cell? ⟨g, o + 3, none⟩ = some (.bool v.dead)
  c4 : w.cell? ⟨g, o + 4, none⟩ = some (.string (strOf v.data))
theorem VerAt.ext {w w' : World} {g o : Nat} {A : Option Addr} {cap : Nat} {v : Sp.Ver} (h : VerAt w g o A cap v) (e : Ext w w') : VerAt w' g o A cap v :=
  ⟨e.cell h.c0, e.cell h.c1, e.cell h.c2, e.cell h.c3, e.cell h.c4⟩
theorem Vers.at {w : World} {A : Option Addr} {l : List Sp.Ver} (h : Vers w A l) (hn : 0 < l.length) : ∃ g o, A = some ⟨g, o, none⟩ ∧ ∀ k (h : k < l.length), ∃ A' cap', VerAt w g (o + k * 5) A' cap' l[k] ∧ Past w A' l[k] := by
  obtain ⟨m, rfl, h2, h3⟩ := h
  have hm : 0 < m.length := by simpa using hn
  obtain ⟨g, o, hA, hc⟩ := h2 (by intro e; have := versC_len m; rw [e] at this; simp at this; omega)
  refine ⟨g, o, hA, fun k hk => ?_⟩
  have hk' : k < m.length := by simpa using hk
  have hp := h3 m[k] (List.getElem_mem hk')
  have hget := fun i hi => versC_get m k i hk' hi
  simp only [List.getElem_map]
  refine ⟨m[k].1, m[k].2.1, ⟨?_, ?_, ?_, ?_, ?_⟩, hp⟩
  · exact hc _ _ ((hget 0 (by decide)).trans rfl)
  · rw [Nat.add_assoc]; exact hc _ _ ((hget 1 (by decide)).trans rfl)
  · rw [Nat.add_assoc]; exact hc _ _ ((hget 2 (by decide)).trans rfl)
  · rw [Nat.add_assoc]; exact hc _ _ ((hget 3 (by decide)).trans rfl)
  · rw [Nat.add_assoc]; exact hc _ _ ((hget 4 (by decide)).trans rfl)
/-- A version in a variable. -/
theorem isBlk.ver {w : World} {g t cap : Nat} {A : Option Addr} {v : Sp.Ver} (h : isBlk w g t (verC A cap v)) : VerAt w g 0 A cap v :=
  ⟨(h.cell 0).trans rfl, (h.cell 1).trans rfl, (h.cell 2).trans rfl, (h.cell 3).trans rfl, (h.cell 4).trans rfl⟩
end Go.Proofs.YtmlfnidckfeebaaGreatDoor
namespace Go.Proofs.YtmlfnidckfeebaaGreatDoor
namespace Sp
/-- Why a version may not be. -/
def vercheck (v : Ver) : Int :=
  if dot v.dot ≠ 0 then dot v.dot else if vcheck v.past ≠ 0 then vcheck v.past else if vhas v.past v.dot = true then 8 else if 48 < v.data.length then 2 else if v.dead = true ∧ v.data ≠ [] then 7 else 0
def covers (a b : Ver) : Bool := vhas a.past b.dot
def covered (l : List Ver) (v : Ver) : Bool := l.any fun w => covers w v
/-- Each version may be, and their peers rise. -/
def lgo : Option Int → List Ver → Int
  | _, [] => 0
  | last, v :: r => if vercheck v ≠ 0 then vercheck v else if (∃ x, last = some x ∧ v.dot.1 ≤ x) then 8 else lgo (some v.dot.1) r
instance (last : Option Int) (d : Int) : Decidable (∃ x, last = some x ∧ d ≤ x) := by
  cases last with
  | none => exact isFalse (by rintro ⟨_, h, _⟩; cases h)
  | some y => exact decidable_of_iff (d ≤ y) ⟨fun h => ⟨y, rfl, h⟩, by rintro ⟨x, h, h'⟩; cases h; exact h'⟩
def leaf (l : List Ver) : Int := if 64 < l.length then 2 else if lgo none l ≠ 0 then lgo none l else if (l.any fun v => covered l v) = true then 7 else 0
def live (l : List Ver) : List Ver := l.filter fun v => !v.dead
end Sp
end Go.Proofs.YtmlfnidckfeebaaGreatDoor
namespace Go.Proofs.YtmlfnidckfeebaaGreatDoor
namespace Sp
/-- A number's bytes, the lowest first. -/
def cput (n : Nat) : List UInt8 := if n < 128 then [UInt8.ofNat n] else UInt8.ofNat (n % 128 + 128) :: cput (n / 128)
termination_by n
decreasing_by omega
def put (n : Int) : List UInt8 := if 0 ≤ n ∧ n ≤ 1073741824 then cput n.toNat else []
/-- The number of bytes. -/
def num : List UInt8 → Nat
  | [] => 0
  | b :: l => b.toNat % 128 + 128 * num l
/-- The place of the first byte below 128, from place i on, among so many. -/
def cend (l : List UInt8) : Nat → Nat → Option Nat
  | 0, _ => none
  | f + 1, i => match l[i]? with
    | none => none
    | some b => if b.toNat < 128 then some i else cend l f (i + 1)
/-- The number that bytes begin with, how many bytes it has, or what is wrong. -/
def take (l : List UInt8) : Nat × Nat × Int := match cend l 5 0 with
  | none => if l.length < 5 then (0, 0, 5) else (0, 0, 2)
  | some i => if l[i]? = some 0 ∧ 0 < i then (0, 0, 7) else if 1073741824 < num (l.take (i + 1)) then (0, 0, 2) else (num (l.take (i + 1)), i + 1, 0)
theorem cput_len (n : Nat) (h : n ≤ 1073741824) : (cput n).length ≤ 5 := by
  rw [cput]; split
  · simp
  · rw [cput]; split
    · simp
    · rw [cput]; split
      · simp
      · rw [cput]; split
        · simp
        · rw [cput]; split
          · simp
          · exfalso; omega
theorem cput_ne (n : Nat) : cput n ≠ [] := by rw [cput]; split <;> simp
theorem put_ne {n : Int} : put n ≠ [] ↔ 0 ≤ n ∧ n ≤ 1073741824 := by
  unfold put; split
  · simp [cput_ne, *]
  · simp [*]
theorem put_len (n : Int) : (put n).length ≤ 5 := by
  unfold put; split
  · exact cput_len _ (by omega)
  · simp
end Sp
end Go.Proofs.YtmlfnidckfeebaaGreatDoor
namespace Go.Proofs.YtmlfnidckfeebaaGreatDoor
open Go.RowKit
theorem right_calls (n : Int) (w : World) : Calls Tryz.prog 246 #[.int .i64 n] w fun e w' => e = .returned (.bool (decide (0 ≤ n ∧ n ≤ 1073741824))) ∧ w = w' := by
  by_cases h0 : 0 ≤ n
  · have e1 : decide (0 ≤ n) = true := decide_eq_true h0
    have F := Lib.hid (show decide (0 ≤ n ∧ n ≤ 1073741824) = decide (n ≤ 1073741824) by rw [decide_eq_decide]; omega)
    clear h0
    go_enter Tryz.func246, Tryz.ntmps246
    go_wp2_with fail
    go_ret
    exact ⟨ret_bool F.out.symm, rfl⟩
  · have e1 : decide (0 ≤ n) = false := decide_eq_false h0
    have F := Lib.hid (show decide (0 ≤ n ∧ n ≤ 1073741824) = false by rw [decide_eq_false_iff_not]; omega)
    clear h0
    go_enter Tryz.func246, Tryz.ntmps246
    go_wp2_with fail
    go_ret
    exact ⟨ret_bool F.out.symm, rfl⟩
end Go.Proofs.YtmlfnidckfeebaaGreatDoor
namespace Go.Proofs.YtmlfnidckfeebaaGreatDoor
open Go.RowKit
/-- A block is as it was. -/
def SameAt (b : Nat) (W W' : World) : Prop := W'.heap[b]? = W.heap[b]?
theorem range_list {F : Fence} {n : Nat} {P : Program} {α : Type} {g : Operand} {ps : Array Tmp} {assign body : Code} {Q : Exit → Act → World → Prop} {a : Act} {w : World}
    (hro : F.round = none) (h1 : 1 ≤ n) {gf : Nat} {lb : Array Value} (hg : a.eval g = .func (.func gf) #[] lb) (hFg : F.fn gf) (eg : ∀ args w, (callFunc gf args).run P w = .ok (.enter gf args) w)
    (encs : α → Array Value) (xs : List α) (hps : ∀ x, (encs x).size = ps.size) (Bn : Nat) (hBn : Bn < w.heap.size)
    (hit : ∀ (l : Nat) (J : Nat → World → Prop) (W : World), Below w.heap.size w W → (∀ i W v, J i W → J i (W.setCell ⟨Bn, 0, none⟩ v)) → (∀ i W, J i W → J i W.drew) →
      (∀ i (hi : i < xs.length) (W1 : World), J i W1 → YieldAt F (n - 1 - 1) P l (encs xs[i]) W1 fun e W' => e = .returned (.bool true) ∧ J (i + 1) W' ∧ SameAt Bn W1 W') → J 0 W →
      CallsIn F (n - 1) P gf (#[.func (.yield l) #[] #[]] ++ lb) W fun e W' => (∃ v, e = .returned v) ∧ J xs.length W')
    (I : Nat → World → Prop) (hI : OwnFrom w.heap.size I) (hIc : ∀ i W v, I i W → I i (W.setCell ⟨Bn, 0, none⟩ v)) (hId : ∀ i W, I i W → I i W.drew) (h0 : I 0 w) (a₁ : α → Act)
    (hassign : ∀ (l : Nat) (x : α) (W : World) (K : Act → World → Prop), K (a₁ x) W →
      assign.wpIn (F.inRound l) (n - 1 - 1) P (Exit.then K (fun _ _ _ => False)) { tmps := (ps.zip (encs x)).foldl (fun t (p, v) => t.setIfInBounds p v) a.tmps, defers := [] } W)
    (hbody : ∀ (l i : Nat) (hi : i < xs.length) (W : World), I i W → body.wpIn (F.inRound l) (n - 1 - 1) P (fun e _ W' => e = .normal ∧ KeepsOthers W W' ∧ SameAt Bn W W' ∧ I (i + 1) W') (a₁ xs[i]) W)
    (hdone : ∀ (D : Nat) (W : World), w.heap.size ≤ D → I xs.length W → W.heap[D]? = some (.deferred (some [])) → Q .normal { a with defers := { target := .collected D, args := #[] } :: a.defers } W) :
    (Code.rangeFunc g ps assign body).wpIn F n P Q a w := by
  refine wpIn_rangeFunc fun fn hfn => ?_
  rw [hro]
  obtain ⟨rec, hrec⟩ : ∃ rec : LoopState → Option Code → Loop, rec = fun st pe => { state := st, pending := pe, fn, tmps := a.tmps, params := ps, assign, body, defers := w.heap.size } := ⟨_, rfl⟩
  obtain ⟨D, hD⟩ : ∃ D, D = w.heap.size := ⟨_, rfl⟩
  obtain ⟨L, hL⟩ : ∃ L, L = w.heap.size + 1 := ⟨_, rfl⟩
  obtain ⟨W1, hW1⟩ : ∃ W1, (w.alloc (.deferred (some []))).alloc (.loop (rec .ready none)) = W1 := ⟨_, rfl⟩
  have hs0 : (w.alloc (.deferred (some []))).heap.size = L := by rw [hL]; simp
  have hl1 : W1.heap[L]? = some (.loop (rec .ready none)) := by rw [← hW1, ← hs0]; exact World.alloc_heap_new _ _
  have hd1 : W1.heap[D]? = some (.deferred (some [])) := by
    rw [← hW1, hD]; exact (Below.heap_alloc _ _ _ (by simp)).trans (World.alloc_heap_new w _)
  have hi1 : I 0 W1 := by rw [← hW1]; exact hI.alloc _ (hI.alloc _ h0)
  have hb1 : Below w.heap.size w W1 := by rw [← hW1]; exact ((Below.refl _ w).alloc (Nat.le_refl _) _).alloc (by simp) _
  refine ⟨L, [{ target := .collected w.heap.size, args := #[] }], W1, { target := .fn (.func gf) lb, args := #[.func (.yield L) #[] #[]] }, W1, gf, #[.func (.yield L) #[] #[]] ++ lb, W1, ?_, ?_, ?_, ?_, fun _ => h1, ?_⟩
  · rw [← hW1, hrec, hL]; exact run_enterLoop_outer _ _ _ _ _
  · simp only [resolve, hg]
    simp [go_sem]
  · intro f' hf'; simp [Target.leads] at hf'; subst hf'; exact hFg
  · simp [invoke, go_sem, eg]
  · have farL : Bn ≠ L := by omega
    have farD : Bn ≠ D := by omega
    refine (hit L (fun i W => I i W ∧ W.heap[L]? = some (.loop (rec .ready none)) ∧ W.heap[D]? = some (.deferred (some []))) W1 hb1
      (fun i W v h => ⟨hIc i W v h.1, by rw [Below.heap_setCell _ _ _ _ (Ne.symm farL)]; exact h.2.1, by rw [Below.heap_setCell _ _ _ _ (Ne.symm farD)]; exact h.2.2⟩)
      (fun i W h => ⟨hId i W h.1, h.2.1, h.2.2⟩) ?_ ⟨hi1, hl1, hd1⟩).mono ?_
    · rintro i hi W ⟨hiW, hl, hd⟩
      have hlt : L < W.heap.size := (Array.getElem?_eq_some_iff.1 hl).1
      have hy := run_yield (P := P) (args := encs xs[i]) hl (by rw [hrec]; exact hps xs[i])
      rw [hrec] at hy
      refine ⟨fn, _, assign, body, hy, roundIn_of_wpIn hfn (hassign _ xs[i] W _ ⟨_, run_beginRound hl (by rw [hrec]), ?_⟩)⟩
      obtain ⟨busy, hbusy⟩ : ∃ busy : Loop, busy = { rec .ready none with state := .busy } := ⟨_, rfl⟩
      rw [← hbusy]
      have hl2 : (W.putObj L (.loop busy)).heap[L]? = some (.loop busy) := World.putObj_heap_same hlt
      have hd2 : (W.putObj L (.loop busy)).heap[D]? = some (.deferred (some [])) := (World.putObj_heap_other (by omega)).trans hd
      refine wpIn_mono (hbody _ i hi _ (hI.putObj _ hiW (by omega) hl rfl)) ?_
      rintro e a3 W3 ⟨rfl, hk3, hs3, hi3⟩
      have hl3 := hk3.same _ _ hl2 rfl
      have hd3 := hk3.same _ _ hd2 rfl
      have hr := run_endRound (P := P) (none : Option Code) hl3
      rw [hbusy, hrec] at hr
      refine ⟨_, _, hr, rfl, ⟨hI.putObj _ hi3 (by omega) hl3 rfl, ?_, (World.putObj_heap_other (by omega)).trans hd3⟩, ?_⟩
      · rw [hrec]; exact World.putObj_heap_same (Array.getElem?_eq_some_iff.1 hl3).1
      · exact (World.putObj_heap_other (by omega)).trans (hs3.trans (World.putObj_heap_other (by omega)))
    · rintro e W2 ⟨⟨v, rfl⟩, hi, hl, hd⟩
      refine ⟨none, _, by have := run_endLoop (P := P) hl (by rw [hrec]; simp); rw [hrec] at this; exact this, ?_⟩
      rw [← hD]
      exact hdone D _ (by omega) (hI.putObj _ hi (by omega) hl rfl) ((World.putObj_heap_other (by omega)).trans hd)
end Go.Proofs.YtmlfnidckfeebaaGreatDoor
