/- Small lemmas for the walks; no program. What the walk meets: a slice that is made; one of its elements that is written. The plain law of chapters 4 and 44: names, pieces, paths, patterns, over lists of bytes; no program. What the walk meets: a variable in memory, a block of its own. What lies in memory: slices of dots, versions, entries; plain words and small lemmas. Vectors: plain. A region that draws its order, each of whose operations tells one value in every world of a kind, and stays within it: calls too. Walked once, in the text's order. After the library's law for regions that only read. A law for a region that draws its order and whose first operations may come late. -/
import Derived.WalkKit
import Derived.Lib.Hide
import Derived.Below
import Derived.Deep.Draws
import Derived.Deep.QuietTactic
import Derived.BigQuiet
import Derived.Deep.RegionHeld3
import Derived.Lib.Strings
import Derived.Lib.IndexBytes
import Derived.Lib.Split
import Derived.Lib.SplitLaws
import Derived.Lib.CountLaws
import Derived.Test.YtmlfnidckfeebaaGreatDoorProg
import Derived.StillTail
import Derived.KernelRfl
namespace Go.Proofs.YtmlfnidckfeebaaGreatDoor
open Go.RowKit
theorem ret_bool {a b : Bool} (h : a = b) : Ending.returned (.bool a) = .returned (.bool b) := by rw [h]
theorem ret_int {k : IntKind} {a b : Int} (h : a = b) : Ending.returned (.int k a) = .returned (.int k b) := by rw [h]
theorem toList_data (s : ByteArray) : s.toList = s.data.toList := ByteArray.toList_eq s
theorem take_snoc (s : ByteArray) (k : Nat) (h : k < s.size) : s.data.toList.take (k + 1) = s.data.toList.take k ++ [s[k]] := by
  rw [List.take_succ_eq_append_getElem (by simpa using h)]; rfl
theorem take_size (s : ByteArray) : s.data.toList.take s.size = s.data.toList := List.take_of_length_le (by simp)
theorem take_all (s : ByteArray) (k : Nat) (h : k < s.size) (p : UInt8 → Bool) (ha : (s.data.toList.take k).all p = true) : (s.data.toList.take (k + 1)).all p = p s[k] := by
  rw [take_snoc s k h, List.all_append, ha]; simp
theorem all_no (s : ByteArray) (k : Nat) (h : k < s.size) (p : UInt8 → Bool) (hp : p s[k] = false) : s.data.toList.all p = false := by
  rw [List.all_eq_false]; exact ⟨s[k], Array.getElem_mem_toList _, by simp [hp]⟩
def AppStat (P : Program) (t e : TypeId) (size bytes : Nat) : Prop :=
  P.underlying t = some (.slice e) ∧ 0 < size ∧ 0 < bytes ∧ ∃ i z, P.info? e = some i ∧ i.zero = some z ∧ i.size = size ∧ i.bytes = bytes ∧ z.cells.size = size

section
variable {P : Program} {ops : Array Oper} {rest : List Oper} {o : Oper} {a : Act} {Q : Exit → Act → World → Prop} {w : World}

theorem owned_form {base : Nat} {e : TypeId} {size n : Nat} {v : Value} {xs : List Value} (h : w.ownsRow base e size v n xs) (hn : 0 < n) : ∃ g cap, v = .slice (some ⟨g, 0, none⟩) n cap ∧ base ≤ g := by
  rcases h.2 with ⟨_, h0⟩ | ⟨g, cap, cur, rfl, hg, _⟩
  · omega
  · exact ⟨g, cap, rfl, hg⟩

theorem app_new {t e : TypeId} {size bytes : Nat} (hst : AppStat P t e size bytes) (hgd : o.guard = none) (s x : Operand) (ho : o.op = .call { callee := .builtin .append, args := #[s, x], argTypes := #[t, t] })
    (base : Nat) (v : Value) (n : Nat) (xs : List Value) (hs : a.eval s = v) (hown : w.ownsRow base e size v n xs) (cs : Array Value) (ty : TypeId) (m : Nat)
    (hx : a.eval x = .slice (some ⟨w.heap.size, 0, none⟩) m m) (hl : cs.size = m * size) (h1 : ∀ u ∈ cs.toList, u.oneCell' = true) (hm : 0 < m) (hcap : (n + m) * bytes ≤ 140737488355328) (hbase : base ≤ w.heap.size)
    (h : ∀ g cap w', w'.ownsRow base e size (.slice (some ⟨g, 0, none⟩) (n + m) cap) (n + m) (xs ++ cs.toList) → w.grownBy w' v.ownBlock → Below base w w' → base ≤ g → wpList P ops Q rest (a.put o.dst (.slice (some ⟨g, 0, none⟩) (n + m) cap)) w') :
    wpList P ops Q (o :: rest) a (w.alloc (.cells cs ty)) := by
  obtain ⟨ht, hz0, hb0, i, z, hi, hz, hsz, hby, hzs⟩ := hst
  have hmax : n + m ≤ maxLen := by
    have : n + m ≤ (n + m) * bytes := Nat.le_mul_of_pos_right _ hb0
    unfold maxLen; omega
  refine wpList_append_own _ hgd s x t ho base e i z size bytes ht hi hz hsz hby hzs hz0 v n xs hs (hown.alloc _) ⟨w.heap.size, 0, none⟩ m m cs.toList hx (by simpa using hl) ?_ h1 hmax hcap (by simp; omega) ?_
  · intro j u hj
    rw [show (⟨w.heap.size, 0, none⟩ : Addr).add j = ⟨w.heap.size, 0 + j, none⟩ from by simp [Addr.add]; omega, cell_of_row _ w.heap.size (0 + j) cs ty (0, 0) (heap_alloc_new w _)]
    simpa using hj
  · intro v' w' hown' hg _
    obtain ⟨g, cap, rfl, hgb⟩ := owned_form hown' (by omega)
    have hg' : w.grownBy w' v.ownBlock := ⟨hg.os, hg.tape, hg.output, Nat.le_trans (by simp) hg.size, fun k hk hne => (hg.block k (by simp; omega) hne).trans (Below.heap_alloc w _ k hk)⟩
    refine h g cap w' hown' hg' ((Below.refl _ _).grown hg' hbase fun k hk => ?_) hgb
    exact (hown.lt k hk).1
end

theorem byte_lt (c : UInt8) : (0 : Int) ≤ c.toNat ∧ (c.toNat : Int) < 256 := by have := c.toNat_lt; omega

section
variable {P : Program} {ops : Array Oper} {rest : List Oper} {o : Oper} {a : Act} {Q : Exit → Act → World → Prop} {w : World}

end

theorem owned_get {w : World} {base g n cap : Nat} {e : TypeId} {xs : List Value} (h : w.ownsRow base e 1 (.slice (some ⟨g, 0, none⟩) n cap) n xs) (j : Nat) (hj : j < n) (hl : j < xs.length) : w.cell? ⟨g, j, none⟩ = some xs[j] := by
  rw [h.cellAt j (by omega), List.getElem?_eq_getElem hl]
theorem owned_below {w w' : World} {base g n cap : Nat} {e : TypeId} {size : Nat} {xs : List Value} (h : w.ownsRow base e size (.slice (some ⟨g, 0, none⟩) n cap) n xs) (hb : Below w.heap.size w w') : w'.ownsRow base e size (.slice (some ⟨g, 0, none⟩) n cap) n xs := by
  have hl := (h.lt g rfl).2
  refine ⟨h.1, ?_⟩
  rcases h.2 with hn | ⟨g', cap', cur, hv, hbg, hgg, rest⟩
  · exact .inl hn
  · refine .inr ⟨g', cap', cur, hv, hbg, ?_, rest⟩
    cases hv
    rw [hb.block _ hl]; exact hgg
theorem owned_drew {w : World} {base n : Nat} {e : TypeId} {size : Nat} {v : Value} {xs : List Value} (h : w.ownsRow base e size v n xs) : w.drew.ownsRow base e size v n xs := h
end Go.Proofs.YtmlfnidckfeebaaGreatDoor
namespace Go.Proofs.YtmlfnidckfeebaaGreatDoor.Sp
abbrev Bs := List UInt8

def low (c : UInt8) : Bool := decide (97 ≤ c) && decide (c ≤ 122) || decide (48 ≤ c) && decide (c ≤ 57)
def sign (c : UInt8) : Bool := low c || c == 46 || c == 95 || c == 45
def name (s : Bs) : Bool := decide (s ≠ []) && decide (s.length ≤ 12) && decide (s ≠ [46]) && decide (s ≠ [46, 46]) && s.all sign

def split : Bs → List Bs
  | [] => [[]]
  | c :: r => if c = 47 then [] :: split r else match split r with
    | h :: t => (c :: h) :: t
    | [] => [[c]]

theorem split_ne (s : Bs) : split s ≠ [] := by
  cases s with
  | nil => simp [split]
  | cons c r => unfold split; split; simp; split <;> simp

def parts (s : Bs) : List Bs :=
  if 51 < s.length then [] else if 4 < (split s).length then [] else if (split s).all name then split s else []
def check (s : Bs) : Int := if 51 < s.length then 2 else if (parts s).length = 0 then 1 else 0

theorem index_one (c : UInt8) (r : Bs) : Lib.index (c :: r) [47] = if c = 47 then 0 else if Lib.index r [47] = -1 then -1 else Lib.index r [47] + 1 := by
  rw [Lib.index]
  by_cases h : c = 47
  · subst h; simp
  · have : ([47] : Bs).isPrefixOf (c :: r) = false := by simp [List.isPrefixOf]; exact fun e => h e.symm
    rw [this]; simp [h]
theorem index_ge (r : Bs) : -1 ≤ Lib.index r [47] := by
  induction r with
  | nil => simp [Lib.index]
  | cons c r ih => rw [index_one]; (repeat' split) <;> omega
theorem splitK_split (s : Bs) : Lib.splitK [47] 0 (s.count 47) s = split s := by
  induction s with
  | nil => rfl
  | cons c r ih =>
    by_cases h : c = 47
    · subst h
      rw [List.count_cons_self, Lib.splitK, index_one]
      simp [split, ih]
    · rw [List.count_cons_of_ne h]
      unfold split
      rw [if_neg h, ← ih]
      cases hk : r.count 47 with
      | zero => simp [Lib.splitK]
      | succ k =>
        have hi : Lib.index r [47] ≠ -1 := fun e => by
          have := Lib.count_miss e; rw [Lib.count_one] at this; omega
        have hg := index_ge r
        rw [Lib.splitK, Lib.splitK, index_one, if_neg h, if_neg hi]
        obtain ⟨i, hi'⟩ : ∃ i : Nat, Lib.index r [47] = i := ⟨(Lib.index r [47]).toNat, by omega⟩
        rw [hi']
        rw [if_neg (by simp <;> omega), if_neg (by simp <;> omega)]
        simp only [Int.toNat_natCast, Nat.add_zero, List.length_singleton]
        rw [show ((i : Int) + 1).toNat = i + 1 from by omega]
        simp
theorem split_lib (s : ByteArray) : (Lib.splitB ⟨#[47]⟩ 0 (Lib.countB s ⟨#[47]⟩) s).map (·.data.toList) = split s.data.toList := by
  rw [Lib.splitB_data, ← splitK_split, ← Lib.count_one]
theorem split_len (s : ByteArray) : (Lib.splitB ⟨#[47]⟩ 0 (Lib.countB s ⟨#[47]⟩) s).length = (split s.data.toList).length := by rw [← split_lib, List.length_map]
theorem countB_split (s : ByteArray) : Lib.countB s ⟨#[47]⟩ + 1 = (split s.data.toList).length := by
  have h : ∀ l : Bs, l.count 47 + 1 = (split l).length := by
    intro l
    induction l with
    | nil => rfl
    | cons c r ih =>
      unfold split
      by_cases h : c = 47
      · subst h; simp [← ih]
      · rw [if_neg h, List.count_cons_of_ne h, ih]; split <;> simp_all
  rw [← h, ← Lib.count_one]
theorem split_mem_le (s : Bs) : ∀ x ∈ split s, x.length ≤ s.length := by
  induction s with
  | nil => simp [split]
  | cons c r ih =>
    unfold split
    split
    · intro x hx
      rcases List.mem_cons.1 hx with rfl | hx
      · simp
      · have := ih x hx; simp; omega
    · split
      · rename_i h t e
        intro x hx
        rw [e] at ih
        rcases List.mem_cons.1 hx with rfl | hx
        · have := ih h (by simp); simp; omega
        · have := ih x (by simp [hx]); simp; omega
      · intro x hx; simp at hx; subst hx; simp
end Go.Proofs.YtmlfnidckfeebaaGreatDoor.Sp
namespace Go.Proofs.YtmlfnidckfeebaaGreatDoor
open Go.RowKit
abbrev isBlk (w : World) (g : Nat) (t : TypeId) (cs : Array Value) : Prop := w.heap[g]? = some (.cells cs t (0, 0))
section
variable {P : Program} {ops : Array Oper} {rest : List Oper} {o : Oper} {a : Act} {Q : Exit → Act → World → Prop} {w : World}
theorem box_new {cs : Array Value} {t : TypeId} (hgd : o.guard = none)
    (hrun : (execOp a.eval o).run P w = .ok (.value (.pointer (some ⟨w.heap.size, 0, none⟩))) (w.alloc (.cells cs t (0, 0))))
    (h : ∀ g w', w.heap.size ≤ g → isBlk w' g t cs → Below w.heap.size w w' → wpList P ops Q rest (a.put o.dst (.pointer (some ⟨g, 0, none⟩))) w') : wpList P ops Q (o :: rest) a w := by
  refine wpList_plain hgd fun K hK => ?_
  unfold Oper.wp
  rw [hrun]
  exact hK _ _ (h w.heap.size _ (Nat.le_refl _) (heap_alloc_new w _) ((Below.refl _ _).alloc (Nat.le_refl _) _))
theorem at_alloc {t : TypeId} (_ho : o.op = .alloc t) (h : wpList P ops Q (o :: rest) a w) : wpList P ops Q (o :: rest) a w := h
theorem at_box {t : TypeId} {x : Operand} (_ho : o.op = .box t x) (h : wpList P ops Q (o :: rest) a w) : wpList P ops Q (o :: rest) a w := h
end
theorem isBlk.lt {w : World} {g : Nat} {t : TypeId} {cs : Array Value} (h : isBlk w g t cs) : g < w.heap.size := by
  rcases Nat.lt_or_ge g w.heap.size with h1 | h1
  · exact h1
  · rw [isBlk, Array.getElem?_eq_none h1] at h; cases h
theorem isBlk.cell {w : World} {g : Nat} {t : TypeId} {cs : Array Value} (h : isBlk w g t cs) (i : Nat) : w.cell? ⟨g, i, none⟩ = cs[i]? := cell_of_row w g i cs t (0, 0) h
theorem isBlk.at {w : World} {g : Nat} {t : TypeId} {cs : Array Value} (h : isBlk w g t cs) (i : Nat) (hi : i < cs.size) : w.cell? ⟨g, i, none⟩ = some cs[i] := by rw [h.cell i, Array.getElem?_eq_getElem hi]
theorem isBlk.frozen {w : World} {g : Nat} {t : TypeId} {cs : Array Value} (h : isBlk w g t cs) (i : Nat) : w.frozen? ⟨g, i, none⟩ = false := by simp [World.frozen?, h]
theorem isBlk.shape {w : World} {g : Nat} {t : TypeId} {cs : Array Value} (h : isBlk w g t cs) : w.shape? g = some (t, cs.size) := by simp [World.shape?, h]
theorem isBlk.below {w w1 : World} {g : Nat} {t : TypeId} {cs : Array Value} (h : isBlk w g t cs) (hb : Below w.heap.size w w1) : isBlk w1 g t cs := (hb.block g h.lt).trans h
theorem isBlk.drew {w : World} {g : Nat} {t : TypeId} {cs : Array Value} (h : isBlk w g t cs) : isBlk w.drew g t cs := h
theorem isBlk.alloc {w : World} {g : Nat} {t : TypeId} {cs : Array Value} (h : isBlk w g t cs) (o : Obj) : isBlk (w.alloc o) g t cs := (Below.heap_alloc w o g h.lt).trans h
theorem isBlk.put {w : World} {g : Nat} {t : TypeId} {cs cs' : Array Value} (h : isBlk w g t cs) (i : Nat) (u : Value) (e : cs.setIfInBounds i u = cs') : isBlk (w.setCell ⟨g, i, none⟩ u) g t cs' := by
  subst e
  have hl := h.lt
  unfold isBlk World.setCell at *
  rw [Array.getElem?_eq_getElem hl] at h
  rw [Array.getElem?_eq_getElem (by simpa using hl), Array.getElem_modify]
  simp only [Option.some.injEq] at h ⊢
  simp [h]
theorem isBlk.far {w : World} {g g2 j : Nat} {t : TypeId} {cs : Array Value} (h : isBlk w g t cs) (hne : g ≠ g2) (u : Value) : isBlk (w.setCell ⟨g2, j, none⟩ u) g t cs := by
  unfold isBlk; rw [Below.heap_setCell _ _ _ _ hne]; exact h
theorem cellKept {W W' : World} {a : Addr} {v : Value} (h : W.cell? a = some v) (k : Below W.heap.size W W') : W'.cell? a = some v := by
  rw [k.cell (World.block_lt_of_cell? _ _ h)]; exact h
theorem bcell {W w1 : World} (hb : Below W.heap.size W w1) : (∀ b o, b < W.heap.size → w1.cell? ⟨b, o, none⟩ = W.cell? ⟨b, o, none⟩) ∧ (∀ b o, b < W.heap.size → w1.frozen? ⟨b, o, none⟩ = W.frozen? ⟨b, o, none⟩) :=
  ⟨fun b o h => hb.cell (p := ⟨b, o, none⟩) h, fun b o h => hb.frozen (p := ⟨b, o, none⟩) h⟩
abbrev Ext (w w' : World) : Prop := Below w.heap.size w w'
theorem Ext.trans {a b c : World} (h : Ext a b) (k : Ext b c) : Ext a c := Below.trans h (k.mono h.size)
theorem _root_.Go.RowKit.Below.from {B : Nat} {a b c : World} (k : Below B b c) (h : Below B a b) : Below B a c := h.trans k
theorem Ext.alloc (w : World) (o : Obj) : Ext w (w.alloc o) := (Below.refl _ _).alloc (Nat.le_refl _) _
theorem Ext.refl (w : World) : Ext w w := Below.refl _ _
theorem cell_lt {w : World} {g o : Nat} {v : Value} (h : w.cell? ⟨g, o, none⟩ = some v) : g < w.heap.size := by
  rcases Nat.lt_or_ge g w.heap.size with h1 | h1
  · exact h1
  · simp [World.cell?, Array.getElem?_eq_none h1] at h
theorem Ext.cell {w w' : World} {g o : Nat} {v : Value} (e : Ext w w') (h : w.cell? ⟨g, o, none⟩ = some v) : w'.cell? ⟨g, o, none⟩ = some v := (Below.cell e (p := ⟨g, o, none⟩) (cell_lt h)).trans h
def Cells (w : World) (A : Option Addr) (cs : List Value) : Prop := cs ≠ [] → ∃ g o, A = some ⟨g, o, none⟩ ∧ ∀ (i : Nat) u, cs[i]? = some u → w.cell? ⟨g, o + i, none⟩ = some u
theorem Cells.ext {w w' : World} {A : Option Addr} {cs : List Value} (h : Cells w A cs) (e : Ext w w') : Cells w' A cs := fun hn => by
  obtain ⟨g, o, hA, hc⟩ := h hn
  exact ⟨g, o, hA, fun i u hi => e.cell (hc i u hi)⟩
theorem Cells.nil (w : World) (A : Option Addr) : Cells w A [] := fun h => absurd rfl h
theorem Cells.own {w : World} {B g n cap : Nat} {t : TypeId} {size : Nat} {cs : List Value} (h : w.ownsRow B t size (.slice (some ⟨g, 0, none⟩) n cap) n cs) : Cells w (some ⟨g, 0, none⟩) cs := fun _ =>
  ⟨g, 0, rfl, fun i u hi => by have := h.cells (g := g) rfl i u hi; rw [Nat.zero_add]; cases i <;> simpa [Addr.add] using this⟩
namespace Sp
abbrev Dot := Int × Int
structure Ver where
  dot : Dot
  past : List Dot
  dead : Bool
  data : Bs
deriving DecidableEq, Inhabited
end Sp
abbrev dotV (d : Sp.Dot) : Value := .agg #[.int .i64 d.1, .int .i64 d.2]
def dotsC : List Sp.Dot → List Value
  | [] => []
  | d :: r => .int .i64 d.1 :: .int .i64 d.2 :: dotsC r
theorem dotsC_len (l : List Sp.Dot) : (dotsC l).length = l.length * 2 := by
  induction l with
  | nil => rfl
  | cons d r ih => simp only [dotsC, List.length_cons, ih]; omega
theorem dotsC_get (l : List Sp.Dot) (k : Nat) (h : k < l.length) : (dotsC l)[k * 2]? = some (.int .i64 l[k].1) ∧ (dotsC l)[k * 2 + 1]? = some (.int .i64 l[k].2) := by
  induction l generalizing k with
  | nil => simp at h
  | cons d r ih =>
    cases k with
    | zero => simp [dotsC]
    | succ k =>
      have := ih k (by simpa using h)
      simp only [dotsC, show (k + 1) * 2 = k * 2 + 1 + 1 by omega, List.getElem?_cons_succ, List.getElem_cons_succ]
      exact this
def Dots (w : World) (A : Option Addr) (l : List Sp.Dot) : Prop := Cells w A (dotsC l)
theorem Dots.ext {w w' : World} {A : Option Addr} {l : List Sp.Dot} (h : Dots w A l) (e : Ext w w') : Dots w' A l := Cells.ext h e
theorem Dots.at {w : World} {A : Option Addr} {l : List Sp.Dot} (h : Dots w A l) (hn : 0 < l.length) : ∃ g o, A = some ⟨g, o, none⟩ ∧ ∀ k (h : k < l.length), w.cell? ⟨g, o + k * 2, none⟩ = some (.int .i64 l[k].1) ∧ w.cell? ⟨g, o + k * 2 + 1, none⟩ = some (.int .i64 l[k].2) := by
  have hl := dotsC_len l
  obtain ⟨g, o, hA, hc⟩ := h (by intro e; rw [e] at hl; simp at hl; omega)
  exact ⟨g, o, hA, fun k hk => ⟨hc _ _ (dotsC_get l k hk).1, by rw [Nat.add_assoc]; exact hc _ _ (dotsC_get l k hk).2⟩⟩
end Go.Proofs.YtmlfnidckfeebaaGreatDoor
namespace Go.Proofs.YtmlfnidckfeebaaGreatDoor
namespace Sp
def dot (d : Dot) : Int := if d.1 < 0 ∨ 64 ≤ d.1 then 11 else if d.2 < 1 ∨ 1048576 < d.2 then 12 else 0
def vgo : Int → List Dot → Int
  | _, [] => 0
  | last, d :: r => if dot d ≠ 0 then dot d else if d.1 ≤ last then 8 else vgo d.1 r
def vcheck (l : List Dot) : Int := vgo (-1) l
def vfind (p : Int) : List Dot → Int
  | [] => 0
  | d :: r => if d.1 = p then d.2 else vfind p r
def vget (v : List Dot) (p : Int) : Int := if vcheck v ≠ 0 then 0 else vfind p v
def vhas (v : List Dot) (d : Dot) : Bool := decide (1 ≤ d.2) && decide (d.2 ≤ vget v d.1)
theorem dot_ok {d : Dot} : dot d = 0 ↔ 0 ≤ d.1 ∧ d.1 < 64 ∧ 1 ≤ d.2 ∧ d.2 ≤ 1048576 := by
  unfold dot
  split
  · constructor
    · intro h; omega
    · intro h; omega
  · split
    · constructor
      · intro h; omega
      · intro h; omega
    · constructor
      · intro _; omega
      · intro _; rfl
theorem vgo_ok : ∀ (l : List Dot) (last : Int), vgo last l = 0 ↔ (∀ d ∈ l, dot d = 0 ∧ last < d.1) ∧ l.Pairwise (fun a b => a.1 < b.1)
  | [], _ => by simp [vgo]
  | d :: r, last => by
    have ih := vgo_ok r d.1
    rw [vgo]
    by_cases h1 : dot d = 0
    · rw [if_neg (by simpa using h1)]
      by_cases h2 : d.1 ≤ last
      · rw [if_pos h2]
        constructor
        · intro h; cases h
        · intro h; have := (h.1 d (by simp)).2; omega
      · rw [if_neg h2, ih]
        constructor
        · rintro ⟨a, b⟩
          refine ⟨?_, List.pairwise_cons.2 ⟨fun x hx => (a x hx).2, b⟩⟩
          intro x hx
          rcases List.mem_cons.1 hx with rfl | hx
          · exact ⟨h1, by omega⟩
          · exact ⟨(a x hx).1, by have := (a x hx).2; omega⟩
        · rintro ⟨a, b⟩
          have b' := List.pairwise_cons.1 b
          exact ⟨fun x hx => ⟨(a x (by simp [hx])).1, b'.1 x hx⟩, b'.2⟩
    · rw [if_pos h1]
      constructor
      · intro h; exact absurd h h1
      · intro h; exact absurd (h.1 d (by simp)).1 h1
theorem vcheck_ok {l : List Dot} : vcheck l = 0 ↔ (∀ d ∈ l, dot d = 0) ∧ l.Pairwise (fun a b => a.1 < b.1) := by
  unfold vcheck
  rw [vgo_ok]
  constructor
  · rintro ⟨a, b⟩; exact ⟨fun d hd => (a d hd).1, b⟩
  · rintro ⟨a, b⟩; exact ⟨fun d hd => ⟨a d hd, by have := dot_ok.1 (a d hd); omega⟩, b⟩
theorem vcheck_one (d : Dot) : vcheck [d] = dot d := by
  unfold vcheck
  rw [vgo, vgo]
  by_cases h : dot d = 0
  · rw [if_neg (by simpa using h), if_neg (by have := dot_ok.1 h; omega), h]
  · rw [if_pos h]
theorem vfind_none (p : Int) : ∀ (l : List Dot), (∀ d ∈ l, d.1 ≠ p) → vfind p l = 0
  | [], _ => rfl
  | d :: r, h => by rw [vfind, if_neg (h d (by simp)), vfind_none p r fun x hx => h x (by simp [hx])]
theorem vfind_at (p : Int) : ∀ (l : List Dot) (i : Nat) (hi : i < l.length), l.Pairwise (fun a b => a.1 < b.1) → l[i].1 = p → vfind p l = l[i].2
  | d :: r, 0, _, _, h => by rw [vfind, if_pos (show d.1 = p from h)]; rfl
  | d :: r, i + 1, hi, hp, h => by
    have hp' := List.pairwise_cons.1 hp
    have hlt : i < r.length := by simpa using hi
    have h1 := hp'.1 r[i] (List.getElem_mem hlt)
    simp only [List.getElem_cons_succ] at h
    rw [vfind, if_neg (by omega), vfind_at p r i hlt hp'.2 h]
    rfl
theorem vget_out (v : List Dot) (p : Int) (h : p < 0 ∨ 64 ≤ p) : vget v p = 0 := by
  unfold vget
  split
  · rfl
  · rename_i hv
    refine vfind_none p v fun d hd => ?_
    have := dot_ok.1 ((vcheck_ok.1 (by simpa using hv)).1 d hd)
    omega
structure Cut (l : List Dot) (p : Int) (i : Nat) : Prop where
  le : i ≤ l.length
  lo : ∀ j (h : j < l.length), j < i → l[j].1 < p
  hi : ∀ j (h : j < l.length), i ≤ j → p ≤ l[j].1
theorem Cut.there {l : List Dot} {p : Int} {i : Nat} (_ : Cut l p i) (hp : l.Pairwise (fun a b => a.1 < b.1)) (hi : i < l.length) (h : l[i].1 = p) : vfind p l = l[i].2 := vfind_at p l i hi hp h
theorem Cut.gone {l : List Dot} {p : Int} {i : Nat} (c : Cut l p i) (hp : l.Pairwise (fun a b => a.1 < b.1)) (h : ∀ hi : i < l.length, l[i].1 ≠ p) : vfind p l = 0 := by
  refine vfind_none p l fun d hd e => ?_
  obtain ⟨j, hj, rfl⟩ := List.mem_iff_getElem.1 hd
  rcases Nat.lt_trichotomy j i with h1 | h1 | h1
  · have := c.lo j hj h1; omega
  · subst h1; exact h hj e
  · have hlt : i < l.length := by omega
    have h2 := List.pairwise_iff_getElem.1 hp i j hlt hj h1
    have h3 := c.hi i hlt (Nat.le_refl _)
    omega
end Sp
section
variable {P : Program} {ops : Array Oper} {md : Region.Mode} {S : World → Prop}

def yUpon (P : Program) (S : World → Prop) (v : Value) : Result Next → Prop
  | .ok (.value u) w' => u = v ∧ S w'
  | .ok .skip w' => v = undef ∧ S w'
  | .ok (.enter f args) w' => Calls P f args w' (fun e w'' => e = .returned v ∧ S w'')
  | _ => False

def YieldsS (P : Program) (ops : Array Oper) (S : World → Prop) (o : Oper) (v : Value) (a : Act) : Prop :=
  (Region.wanted o (yielded ops a.tmps) = true ∧ ∀ w, S w → yUpon P S v ((execOp a.eval o).run P w)) ∨ (Region.wanted o (yielded ops a.tmps) = false ∧ v = undef)

theorem YieldsS.of_same {o : Oper} {v : Value} {a a' : Act} (hy : YieldsS P ops S o v a) (he : execOp a'.eval o = execOp a.eval o)
    (hw : Region.wanted o (yielded ops a'.tmps) = Region.wanted o (yielded ops a.tmps)) : YieldsS P ops S o v a' := by
  unfold YieldsS at *
  rw [he, hw]
  exact hy

def dOp (P : Program) (ops : Array Oper) (S : World → Prop) (i : Nat) (K : Act → Prop) (a : Act) : Prop :=
  match ops[i]? with
  | none => K a
  | some o => ∃ v, YieldsS P ops S o v a ∧ K (a.put o.dst v)

theorem dOp_mono {i : Nat} {a : Act} {K K' : Act → Prop} (h : ∀ a, K a → K' a) (hh : dOp P ops S i K a) : dOp P ops S i K' a := by
  unfold dOp at *
  split
  · rename_i ho; simp only [ho] at hh; exact h _ hh
  · rename_i o ho
    simp only [ho] at hh
    obtain ⟨v, hy, hk⟩ := hh
    exact ⟨v, hy, h _ hk⟩

theorem wpOp_of_dOp {i : Nat} {a : Act} {w : World} {K : Act → Prop} {K' : Act → World → Prop} {Q' : Exit → Act → World → Prop} (hS : S w) (h : ∀ a w, K a → S w → K' a w) (hh : dOp P ops S i K a) : wpOp P ops Q' i K' a w := by
  unfold dOp at hh
  unfold wpOp
  split
  · rename_i ho; simp only [ho] at hh; exact h _ _ hh hS
  · rename_i o ho
    simp only [ho] at hh
    obtain ⟨v, hy, hk⟩ := hh
    rcases hy with ⟨hw, hv⟩ | ⟨hw, rfl⟩
    · simp only [hw, if_true]
      refine .inl ?_
      have hu := hv w hS
      unfold Oper.wp
      generalize (execOp a.eval o).run P w = r at *
      cases r with
      | ok n w' =>
        cases n <;> simp only [yUpon] at hu <;> simp only [Oper.upon]
        case value u => obtain ⟨rfl, h2⟩ := hu; exact h _ _ hk h2
        case skip => obtain ⟨rfl, h2⟩ := hu; exact h _ _ hk h2
        case enter f args => exact hu.mono fun e w'' ⟨he, hw⟩ => by subst he; exact h _ _ hk hw
      | halt x w' => simp only [yUpon] at hu
    · simp only [hw, Bool.false_eq_true, if_false]; exact h _ _ hk hS

theorem dOp_put {j : Nat} {oi oj : Oper} {v : Value} (hj : ops[j]? = some oj) (hap : oi.apart ops oj = true)
    (hsi : ∀ cs b, oi.op ≠ .select cs b) (hsj : ∀ cs b, oj.op ≠ .select cs b) {K : Act → Prop} {a : Act}
    (hy : YieldsS P ops S oi v a) (h : dOp P ops S j K (a.put oi.dst v)) :
    dOp P ops S j (fun a' => YieldsS P ops S oi v a' ∧ K (a'.put oi.dst v)) a := by
  obtain ⟨h1, h2, h3⟩ := Oper.apart_spec hap
  unfold dOp at *
  simp only [hj] at *
  obtain ⟨u, hu, hk⟩ := h
  exact ⟨u, hu.of_same (execOp_put oj hsj a oi.dst v h1).symm (wanted_put oj a oi.dst v h1).symm, hy.of_same (execOp_put oi hsi a oj.dst u h3) (wanted_put oi a oj.dst u h3), by rw [← Act.put_comm a v u h2]; exact hk⟩

def wpDet (P : Program) (ops : Array Oper) (S : World → Prop) (Q : Act → Prop) : List Oper → Act → Prop
  | [], a => Q a
  | o :: rest, a => ∃ v, YieldsS P ops S o v a ∧ wpDet P ops S Q rest (a.put o.dst v)
theorem det_nil {Q : Act → Prop} {a : Act} (h : Q a) : wpDet P ops S Q [] a := h
theorem det_step {Q : Act → Prop} {a : Act} {o : Oper} {rest : List Oper} (h : ∀ K : Act → Prop, (∀ a, wpDet P ops S Q rest a → K a) → ∃ v, YieldsS P ops S o v a ∧ K (a.put o.dst v)) : wpDet P ops S Q (o :: rest) a :=
  h _ fun _ h => h
theorem det_no' {a : Act} {o : Oper} {K : Act → Prop} (hw : Region.wanted o (yielded ops a.tmps) = false) (h : K (a.put o.dst undef)) : ∃ v, YieldsS P ops S o v a ∧ K (a.put o.dst v) := ⟨undef, .inr ⟨hw, rfl⟩, h⟩
def wpAnyD (P : Program) (md : Region.Mode) (ops : Array Oper) (S : World → Prop) (Q : Act → Prop) : Nat → Array Bool → Act → Prop
  | 0, listed, a => Region.ready md ops listed = [] ∧ Q a
  | fuel + 1, listed, a =>
    (Region.ready md ops listed = [] → Q a) ∧
    ∀ i ∈ Region.ready md ops listed, dOp P ops S i (wpAnyD P md ops S Q fuel (listed.setIfInBounds i true)) a

theorem wpAny_of_det {Q : Act → Prop} {Q' : Exit → Act → World → Prop} (hQ : ∀ a w, Q a → S w → Q' .normal a w) : ∀ (fuel : Nat) (listed : Array Bool) (a : Act) (w : World), S w →
    wpAnyD P md ops S Q fuel listed a → wpAny P md ops Q' fuel listed a w
  | 0, _, _, _, hS, h => ⟨h.1, hQ _ _ h.2 hS⟩
  | fuel + 1, _, _, _, hS, h => ⟨fun h0 => hQ _ _ (h.1 h0) hS, fun i hi => wpOp_of_dOp hS (fun a' w' h' hS' => wpAny_of_det hQ fuel _ a' w' hS' h') (h.2 i hi)⟩

theorem YieldsS.dOp {i : Nat} {o : Oper} {v : Value} {a : Act} (hi : ops[i]? = some o) (hy : YieldsS P ops S o v a) {K : Act → Prop} (h : K (a.put o.dst v)) : dOp P ops S i K a := by
  unfold Go.Proofs.YtmlfnidckfeebaaGreatDoor.dOp
  simp only [hi]
  exact ⟨v, hy, h⟩

theorem wpAnyD_first {Q : Act → Prop} {i : Nat} {oi : Oper} {v : Value} (hi : ops[i]? = some oi) (hsel : ∀ (j : Nat) (o : Oper) cs b, ops[j]? = some o → o.op ≠ .select cs b) :
    ∀ (fuel : Nat) (listed : Array Bool) (a : Act),
      (∀ j oj, ops[j]? = some oj → j ≠ i → listed.getD j true = false → (∀ e ∈ oj.after, Region.binds md e = true → e.on ≠ i) → oi.apart ops oj = true) →
      i ∈ Region.ready md ops listed → YieldsS P ops S oi v a →
      wpAnyD P md ops S Q fuel (listed.setIfInBounds i true) (a.put oi.dst v) → wpAnyD P md ops S Q (fuel + 1) listed a := by
  intro fuel
  induction fuel with
  | zero =>
    intro listed a _ hr hy H
    refine ⟨fun h => (by rw [h] at hr; cases hr), fun j hj => ?_⟩
    by_cases hji : j = i
    · subst hji; exact hy.dOp hi H
    · have := ready_mono hj hji
      rw [H.1] at this
      cases this
  | succ fuel ih =>
    intro listed a hfree hr hy H
    refine ⟨fun h => (by rw [h] at hr; cases hr), fun j hj => ?_⟩
    by_cases hji : j = i
    · subst hji; exact hy.dOp hi H
    · have h1 := H.2 j (ready_mono hj hji)
      obtain ⟨hjun, oj, hoj, hall⟩ := mem_ready.1 hj
      have hnot : ∀ e ∈ oj.after, Region.binds md e = true → e.on ≠ i := fun e he hb heq => by
        have h1 := hall e he hb
        rw [heq, getD_both (mem_ready.1 hr).1] at h1
        cases h1
      have h2 := dOp_put hoj (hfree j oj hoj hji hjun hnot) (fun cs b => hsel i oi cs b hi) (fun cs b => hsel j oj cs b hoj) hy h1
      have hfree' : ∀ k ok, ops[k]? = some ok → k ≠ i → (listed.setIfInBounds j true).getD k true = false →
          (∀ e ∈ ok.after, Region.binds md e = true → e.on ≠ i) → oi.apart ops ok = true := fun k ok hk hki hun hno => by
        refine hfree k ok hk hki ?_ hno
        by_cases hjk : j = k
        · subst hjk; exact hjun
        · rw [getD_set_ne true hjk] at hun; exact hun
      refine dOp_mono (fun a' h3 => ih (listed.setIfInBounds j true) a' hfree' (ready_mono hr (Ne.symm hji)) h3.1 ?_) h2
      rw [Array.setIfInBounds_comm _ _ hji]
      exact h3.2

theorem wpAnyD_lex {Q : Act → Prop} (hs : Region.noSelect ops = true) : ∀ (l : List Oper) (k : Nat) (listed : Array Bool) (a : Act), (∀ j, l[j]? = ops[k + j]?) →
    Region.lexFrom md ops l.length k listed = true → wpDet P ops S Q l a → wpAnyD P md ops S Q l.length listed a
  | [], _, _, _, _, hB, h => ⟨by simpa [Region.lexFrom] using hB, h⟩
  | o :: l, k, listed, a, hl, hB, h => by
    have h0 : ops[k]? = some o := by simpa using (hl 0).symm
    simp only [List.length_cons, Region.lexFrom, Bool.and_eq_true] at hB
    obtain ⟨⟨hr, hf⟩, hB'⟩ := hB
    obtain ⟨v, hy, hK⟩ := h
    exact wpAnyD_first h0 (Region.noSelect_spec hs) l.length listed a (Region.free_spec h0 hf) (by simpa using hr) hy
      (wpAnyD_lex hs l (k + 1) _ _ (fun j => by have := hl (j + 1); simpa [Nat.add_assoc, Nat.add_comm 1 j] using this) hB' hK)

theorem wp_region_det (S : World → Prop) {id : Nat} {Q : Exit → Act → World → Prop} {a : Act} {w : World} {l : List Oper} (hm : P.follows .mixedOrders = true) (hB : Region.lexB .any l.toArray = true)
    (hS : S w.drew) (h : wpDet P l.toArray S (fun a' => ∀ w', S w' → Q .normal a' w') l a) : (Code.region id l.toArray true).wp P Q a w := by
  simp only [Region.lexB, Bool.and_eq_true] at hB
  refine wp_region_any hm (wpAny_of_det (S := S) (Q := fun a' => ∀ w', S w' → Q .normal a' w') (fun a w h hS => h w hS) _ _ _ _ hS ?_)
  have := wpAnyD_lex (md := .any) hB.1 l 0 (Array.replicate l.toArray.size false) a (by simp) (by simpa using hB.2) h
  simpa using this

def wpAnyLD (P : Program) (md : Region.Mode) (ops : Array Oper) (S : World → Prop) (n : Nat) (L : Array Bool → Act → Prop) : Nat → Array Bool → Act → Prop
  | 0, listed, a => L listed a
  | f + 1, listed, a =>
    Region.ready md ops listed ≠ [] ∧ ∀ i ∈ Region.ready md ops listed, i < n ∧ dOp P ops S i (wpAnyLD P md ops S n L f (listed.setIfInBounds i true)) a
theorem wpAny_of_headD {n g : Nat} {L : Array Bool → Act → Prop} {Q' : Exit → Act → World → Prop} (hL : ∀ listed a w, L listed a → S w → wpAny P md ops Q' g listed a w) :
    ∀ (f : Nat) (listed : Array Bool) (a : Act) (w : World), S w → wpAnyLD P md ops S n L f listed a → wpAny P md ops Q' (f + g) listed a w
  | 0, listed, a, w, hS, h => by rw [Nat.zero_add]; exact hL _ _ _ h hS
  | f + 1, listed, a, w, hS, h => by
    rw [show f + 1 + g = (f + g) + 1 by omega]
    exact ⟨fun h0 => absurd h0 h.1, fun i hi => wpOp_of_dOp hS (fun a' w' h' hS' => wpAny_of_headD hL f _ a' w' hS' h') (h.2 i hi).2⟩
theorem wpAnyLD_first {n i : Nat} {oi : Oper} {v : Value} {L : Array Bool → Act → Prop} (hi : ops[i]? = some oi) (hsel : ∀ (j : Nat) (o : Oper) cs b, ops[j]? = some o → o.op ≠ .select cs b)
    (hwt : ∀ listed, HeadInv md ops n listed → ∀ i, i < n → listed.getD i true = false → ∀ t, n ≤ t → t ∉ Region.ready md ops listed) (hin : i < n)
    (hdone : ∀ listed a, L listed a → ∀ j ∈ Region.ready md ops listed, n ≤ j) :
    ∀ (f : Nat) (listed : Array Bool) (a : Act), HeadInv md ops n listed →
      (∀ j oj, ops[j]? = some oj → j ≠ i → listed.getD j true = false → (∀ e ∈ oj.after, Region.binds md e = true → e.on ≠ i) → oi.apart ops oj = true) →
      i ∈ Region.ready md ops listed → YieldsS P ops S oi v a →
      wpAnyLD P md ops S n L f (listed.setIfInBounds i true) (a.put oi.dst v) → wpAnyLD P md ops S n L (f + 1) listed a := by
  intro f
  induction f with
  | zero =>
    intro listed a inv _ hr hy H
    have hun := (mem_ready.1 hr).1
    refine ⟨fun h => (by rw [h] at hr; cases hr), fun j hj => ?_⟩
    have hjn : j < n := by
      rcases Nat.lt_or_ge j n with h | h
      · exact h
      · exact absurd hj (hwt _ inv i hin hun j h)
    refine ⟨hjn, ?_⟩
    by_cases hji : j = i
    · subst hji; exact hy.dOp hi H
    · have := hdone _ _ H j (ready_mono hj hji)
      omega
  | succ f ih =>
    intro listed a inv hfree hr hy H
    have hun := (mem_ready.1 hr).1
    refine ⟨fun h => (by rw [h] at hr; cases hr), fun j hj => ?_⟩
    have hjn : j < n := by
      rcases Nat.lt_or_ge j n with h | h
      · exact h
      · exact absurd hj (hwt _ inv i hin hun j h)
    refine ⟨hjn, ?_⟩
    by_cases hji : j = i
    · subst hji; exact hy.dOp hi H
    · have h1 := (H.2 j (ready_mono hj hji)).2
      obtain ⟨hjun, oj, hoj, hall⟩ := mem_ready.1 hj
      have hnot : ∀ e ∈ oj.after, Region.binds md e = true → e.on ≠ i := fun e he hb heq => by
        have h1 := hall e he hb
        rw [heq, getD_both hun] at h1
        cases h1
      have h2 := dOp_put hoj (hfree j oj hoj hji hjun hnot) (fun cs b => hsel i oi cs b hi) (fun cs b => hsel j oj cs b hoj) hy h1
      have hfree' : ∀ k ok, ops[k]? = some ok → k ≠ i → (listed.setIfInBounds j true).getD k true = false →
          (∀ e ∈ ok.after, Region.binds md e = true → e.on ≠ i) → oi.apart ops ok = true := fun k ok hk hki hun hno => by
        refine hfree k ok hk hki ?_ hno
        by_cases hjk : j = k
        · subst hjk; exact hjun
        · rw [getD_set_ne true hjk] at hun; exact hun
      refine dOp_mono (fun a' h3 => ih (listed.setIfInBounds j true) a' (inv.set hj hjn) hfree' (ready_mono hr (Ne.symm hji)) h3.1 ?_) h2
      rw [Array.setIfInBounds_comm _ _ hji]
      exact h3.2
def headB (md : Region.Mode) (ops : Array Oper) (B : Array Bool → Bool) : Nat → Nat → Array Bool → Bool
  | 0, _, listed => B listed
  | f + 1, k, listed => (Region.ready md ops listed).contains k && Region.free md ops listed k && headB md ops B f (k + 1) (listed.setIfInBounds k true)
theorem headB_eq (md : Region.Mode) (ops : Array Oper) (g : Nat) : ∀ (f k : Nat) (listed : Array Bool), headB md ops (Region.seqB md ops g (k + f)) f k listed = Region.lexHead md ops g f k listed
  | 0, k, listed => rfl
  | f + 1, k, listed => by
    have := headB_eq md ops g f (k + 1) (listed.setIfInBounds k true)
    rw [show k + 1 + f = k + (f + 1) by omega] at this
    simp only [headB, Region.lexHead, this]
theorem wpAnyLD_lex {n : Nat} {Lq : Act → Prop} {B : Array Bool → Bool} (hBr : ∀ listed, B listed = true → ∀ j ∈ Region.ready md ops listed, n ≤ j) (hsel : Region.noSelect ops = true)
    (hwt : ∀ listed, HeadInv md ops n listed → ∀ i, i < n → listed.getD i true = false → ∀ t, n ≤ t → t ∉ Region.ready md ops listed) :
    ∀ (l : List Oper) (k : Nat) (listed : Array Bool) (a : Act), (∀ j, j < l.length → l[j]? = ops[k + j]?) → k + l.length = n → HeadInv md ops n listed →
    headB md ops B l.length k listed = true → wpDet P ops S Lq l a →
    wpAnyLD P md ops S n (fun listed' a' => B listed' = true ∧ Lq a') l.length listed a
  | [], k, listed, a, _, hk, _, hB, h => by
    have : k = n := by simpa using hk
    subst this
    exact ⟨by simpa [headB] using hB, h⟩
  | o :: l, k, listed, a, hl, hk, inv, hB, h => by
    have h0 : ops[k]? = some o := by simpa using (hl 0 (by simp)).symm
    simp only [List.length_cons, headB, Bool.and_eq_true] at hB
    obtain ⟨⟨hr, hf⟩, hB'⟩ := hB
    have hkn : k < n := by simp only [List.length_cons] at hk; omega
    have hr' : k ∈ Region.ready md ops listed := by simpa using hr
    obtain ⟨v, hy, hK⟩ := h
    exact wpAnyLD_first h0 (Region.noSelect_spec hsel) hwt hkn (fun listed' a' hL => hBr _ hL.1) l.length listed a inv (Region.free_spec h0 hf) hr' hy
      (wpAnyLD_lex hBr hsel hwt l (k + 1) _ _ (fun j hj => by have := hl (j + 1) (by simp; omega); simpa [Nat.add_assoc, Nat.add_comm 1 j] using this) (by simp only [List.length_cons] at hk; omega) (inv.set hr' hkn) hB' hK)

theorem wp_region_det_tail (S : World → Prop) {id : Nat} {Q : Exit → Act → World → Prop} {a : Act} {w : World} {l : List Oper} (n : Nat) (hm : P.follows .mixedOrders = true) (hB : Region.lexTailB .any l.toArray n = true)
    (hS : S w.drew) (h : wpDet P l.toArray S (fun a' => ∀ w', S w' → wpList P l.toArray Q (l.drop n) a' w') (l.take n) a) : (Code.region id l.toArray true).wp P Q a w := by
  simp only [Region.lexTailB, Bool.and_eq_true, decide_eq_true_eq] at hB
  obtain ⟨⟨⟨⟨hsel, hn⟩, hs⟩, hc⟩, hlex⟩ := hB
  have hn' : n < l.length := by simpa using hn
  have htl : (l.take n).length = n := by simp; omega
  have hdl : (l.drop n).length = l.toArray.size - n := by simp
  have inv0 : HeadInv .any l.toArray n (Array.replicate l.toArray.size false) :=
    ⟨by simp, fun j oj _ hl => (by rw [getD_replicate_false] at hl; cases hl), fun t _ ht => getD_in (by simpa using ht) (getD_replicate_false _ _)⟩
  have H := wpAnyLD_lex (S := S) (md := .any) (B := Region.seqB .any l.toArray (l.toArray.size - n) n) (fun listed h => seqB_ready h) hsel (fun listed inv i hi hun t ht => tail_waits hs hc hn inv _ i rfl hi hun t ht) (l.take n) 0 _ a (fun j hj => by
    have hj' : j < n := by rw [htl] at hj; exact hj
    simp [hj']) (by simpa using htl) inv0 (by rw [htl]; have := headB_eq .any l.toArray (l.toArray.size - n) n 0 (Array.replicate l.toArray.size false); rw [Nat.zero_add] at this; rw [this]; exact hlex) h
  refine wp_region_any hm ?_
  have := wpAny_of_headD (S := S) (Q' := Q) (g := l.toArray.size - n) (fun listed a' w' hL hS' => by
    have := wpAny_of_seq (md := .any) (Q' := Q) (l.drop n) n listed a' w' (fun j => by simp [List.getElem?_drop]) (by rw [hdl]; exact hL.1) (hL.2 w' hS')
    rwa [hdl] at this) _ _ _ _ hS H
  rw [htl, show n + (l.toArray.size - n) = l.toArray.size by omega] at this
  exact this
def behindB (md : Region.Mode) (ops : Array Oper) (n : Nat) : Bool :=
  (List.range ops.size).all fun t => decide (t ≤ n) || (List.range ops.size).any fun j => decide (n ≤ j) && Region.waitsFor md ops t j
def goesOn (Q : Exit → Act → World → Prop) (e : Exit) (a : Act) (w : World) : Prop := e = .normal ∧ Q .normal a w
end
end Go.Proofs.YtmlfnidckfeebaaGreatDoor
namespace Go.Proofs.YtmlfnidckfeebaaGreatDoor
open Go.RowKit
section
variable {P : Program} {md : Region.Mode} {ops : Array Oper} {S : World → Prop}
theorem wpAnyLD_firstI {n : Nat} {I : Array Bool → Prop} (hIs : ∀ listed j, I listed → j ∈ Region.ready md ops listed → j < n → I (listed.setIfInBounds j true)) {i : Nat} {oi : Oper} {v : Value} {L : Array Bool → Act → Prop} (hi : ops[i]? = some oi) (hsel : ∀ (j : Nat) (o : Oper) cs b, ops[j]? = some o → o.op ≠ .select cs b)
    (hwt : ∀ listed, I listed → ∀ i, i < n → listed.getD i true = false → ∀ t, n ≤ t → t ∉ Region.ready md ops listed) (hin : i < n)
    (hdone : ∀ listed a, L listed a → ∀ j ∈ Region.ready md ops listed, n ≤ j) :
    ∀ (f : Nat) (listed : Array Bool) (a : Act), I listed →
      (∀ j oj, ops[j]? = some oj → j ≠ i → listed.getD j true = false → (∀ e ∈ oj.after, Region.binds md e = true → e.on ≠ i) → oi.apart ops oj = true) →
      i ∈ Region.ready md ops listed → YieldsS P ops S oi v a →
      wpAnyLD P md ops S n L f (listed.setIfInBounds i true) (a.put oi.dst v) → wpAnyLD P md ops S n L (f + 1) listed a := by
  intro f
  induction f with
  | zero =>
    intro listed a inv _ hr hy H
    have hun := (mem_ready.1 hr).1
    refine ⟨fun h => (by rw [h] at hr; cases hr), fun j hj => ?_⟩
    have hjn : j < n := by
      rcases Nat.lt_or_ge j n with h | h
      · exact h
      · exact absurd hj (hwt _ inv i hin hun j h)
    refine ⟨hjn, ?_⟩
    by_cases hji : j = i
    · subst hji; exact hy.dOp hi H
    · have := hdone _ _ H j (ready_mono hj hji)
      omega
  | succ f ih =>
    intro listed a inv hfree hr hy H
    have hun := (mem_ready.1 hr).1
    refine ⟨fun h => (by rw [h] at hr; cases hr), fun j hj => ?_⟩
    have hjn : j < n := by
      rcases Nat.lt_or_ge j n with h | h
      · exact h
      · exact absurd hj (hwt _ inv i hin hun j h)
    refine ⟨hjn, ?_⟩
    by_cases hji : j = i
    · subst hji; exact hy.dOp hi H
    · have h1 := (H.2 j (ready_mono hj hji)).2
      obtain ⟨hjun, oj, hoj, hall⟩ := mem_ready.1 hj
      have hnot : ∀ e ∈ oj.after, Region.binds md e = true → e.on ≠ i := fun e he hb heq => by
        have h1 := hall e he hb
        rw [heq, getD_both hun] at h1
        cases h1
      have h2 := dOp_put hoj (hfree j oj hoj hji hjun hnot) (fun cs b => hsel i oi cs b hi) (fun cs b => hsel j oj cs b hoj) hy h1
      have hfree' : ∀ k ok, ops[k]? = some ok → k ≠ i → (listed.setIfInBounds j true).getD k true = false →
          (∀ e ∈ ok.after, Region.binds md e = true → e.on ≠ i) → oi.apart ops ok = true := fun k ok hk hki hun hno => by
        refine hfree k ok hk hki ?_ hno
        by_cases hjk : j = k
        · subst hjk; exact hjun
        · rw [getD_set_ne true hjk] at hun; exact hun
      refine dOp_mono (fun a' h3 => ih (listed.setIfInBounds j true) a' (hIs _ _ inv hj hjn) hfree' (ready_mono hr (Ne.symm hji)) h3.1 ?_) h2
      rw [Array.setIfInBounds_comm _ _ hji]
      exact h3.2
theorem wpAnyLD_lexI {n : Nat} {I : Array Bool → Prop} (hIs : ∀ listed j, I listed → j ∈ Region.ready md ops listed → j < n → I (listed.setIfInBounds j true)) {Lq : Act → Prop} {B : Array Bool → Bool} (hBr : ∀ listed, B listed = true → ∀ j ∈ Region.ready md ops listed, n ≤ j) (hsel : Region.noSelect ops = true)
    (hwt : ∀ listed, I listed → ∀ i, i < n → listed.getD i true = false → ∀ t, n ≤ t → t ∉ Region.ready md ops listed) :
    ∀ (l : List Oper) (k : Nat) (listed : Array Bool) (a : Act), (∀ j, j < l.length → l[j]? = ops[k + j]?) → k + l.length = n → I listed →
    headB md ops B l.length k listed = true → wpDet P ops S Lq l a →
    wpAnyLD P md ops S n (fun listed' a' => B listed' = true ∧ Lq a') l.length listed a
  | [], k, listed, a, _, hk, _, hB, h => by
    have : k = n := by simpa using hk
    subst this
    exact ⟨by simpa [headB] using hB, h⟩
  | o :: l, k, listed, a, hl, hk, inv, hB, h => by
    have h0 : ops[k]? = some o := by simpa using (hl 0 (by simp)).symm
    simp only [List.length_cons, headB, Bool.and_eq_true] at hB
    obtain ⟨⟨hr, hf⟩, hB'⟩ := hB
    have hkn : k < n := by simp only [List.length_cons] at hk; omega
    have hr' : k ∈ Region.ready md ops listed := by simpa using hr
    obtain ⟨v, hy, hK⟩ := h
    exact wpAnyLD_firstI hIs h0 (Region.noSelect_spec hsel) hwt hkn (fun listed' a' hL => hBr _ hL.1) l.length listed a inv (Region.free_spec h0 hf) hr' hy
      (wpAnyLD_lexI hIs hBr hsel hwt l (k + 1) _ _ (fun j hj => by have := hl (j + 1) (by simp; omega); simpa [Nat.add_assoc, Nat.add_comm 1 j] using this) (by simp only [List.length_cons] at hk; omega) (hIs _ _ inv hr' hkn) hB' hK)

def sinkFrom (md : Region.Mode) (ops : Array Oper) (p n : Nat) : Bool :=
  (List.range n).all fun i => decide (i < p) || (List.range (n + 1)).any fun j => decide (i < j) && Region.waitsFor md ops j i
theorem tail_waits3 {p n : Nat} {listed : Array Bool} (hs : sinkFrom md ops p n = true) (hc : behindB md ops n = true) (hn : n < ops.size) (inv : HeadInv md ops n listed) :
    ∀ (d i : Nat), n - i = d → p ≤ i → i < n → listed.getD i true = false → ∀ t, n ≤ t → t ∉ Region.ready md ops listed := by
  intro d
  induction d using Nat.strongRecOn with
  | _ d ih =>
    intro i hd hpi hi hun t ht hr
    obtain ⟨_, ot, hot, hall⟩ := mem_ready.1 hr
    have htlt : t < ops.size := (Array.getElem?_eq_some_iff.1 hot).1
    by_cases htn : t = n
    · subst htn
      have h1 := List.all_eq_true.1 hs i (List.mem_range.2 hi)
      rw [decide_eq_false (by omega), Bool.false_or] at h1
      obtain ⟨j, hj, hj2⟩ := List.any_eq_true.1 h1
      simp only [Bool.and_eq_true, decide_eq_true_eq] at hj2
      obtain ⟨oj, hoj, e, he, hb, hon⟩ := Region.waitsFor_spec hj2.2
      have hjle : j ≤ t := by have := List.mem_range.1 hj; omega
      by_cases hjt : j = t
      · subst hjt
        have : oj = ot := Option.some.inj (hoj.symm.trans hot)
        subst this
        have h2 := hall e he hb
        rw [hon, getD_both hun] at h2
        cases h2
      · cases hl : listed.getD j false with
        | true =>
          have h2 := inv.closed j oj hoj hl e he hb
          rw [hon, getD_both hun] at h2
          cases h2
        | false =>
          have hjs : j < listed.size := by rw [inv.size]; omega
          exact ih (t - j) (by omega) j rfl (by omega) (by omega) (getD_in hjs hl) t (Nat.le_refl _) hr
    · have h1 := List.all_eq_true.1 hc t (List.mem_range.2 htlt)
      simp only [Bool.or_eq_true, decide_eq_true_eq] at h1
      rcases h1 with h1 | h1
      · omega
      · obtain ⟨j, hj, hj2⟩ := List.any_eq_true.1 h1
        simp only [Bool.and_eq_true, decide_eq_true_eq] at hj2
        obtain ⟨o', ho', e, he, hb, hon⟩ := Region.waitsFor_spec hj2.2
        have : o' = ot := Option.some.inj (ho'.symm.trans hot)
        subst this
        have h2 := hall e he hb
        rw [hon, getD_both (inv.tail j hj2.1 (by have := List.mem_range.1 hj; omega))] at h2
        cases h2
def lexPreB (md : Region.Mode) (ops : Array Oper) (p n : Nat) : Bool :=
  Region.noSelect ops && decide (p ≤ n) && decide (n < ops.size) && sinkFrom md ops p n && behindB md ops n && headB md ops (fun l1 => headB md ops (Region.seqB md ops (ops.size - n) n) (n - p) p l1) p 0 (Array.replicate ops.size false)
end
end Go.Proofs.YtmlfnidckfeebaaGreatDoor
