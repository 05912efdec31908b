/- Small lemmas for the walks; no program. What the walk meets: a slice that is made; one of its elements that is written. The plain law of chapters 4 and 44: names, pieces, paths, patterns, over lists of bytes; no program. What the walk meets: a variable in memory, a block of its own. -/
import Derived.WalkKit
import Derived.Lib.Hide
import Derived.Below
import Derived.Deep.Draws
import Derived.Deep.QuietTactic
import Derived.BigQuiet
import Derived.Deep.RegionHeld3
import Derived.Lib.Strings
import Derived.Lib.IndexBytes
import Derived.Lib.Split
import Derived.Lib.SplitLaws
import Derived.Lib.CountLaws
namespace Go.Proofs.YteiblfcehlibpaaGreatDoor
open Go.RowKit

theorem ret_bool {a b : Bool} (h : a = b) : Ending.returned (.bool a) = .returned (.bool b) := by rw [h]
theorem ret_int {k : IntKind} {a b : Int} (h : a = b) : Ending.returned (.int k a) = .returned (.int k b) := by rw [h]
theorem toList_data (s : ByteArray) : s.toList = s.data.toList := ByteArray.toList_eq s
theorem take_snoc (s : ByteArray) (k : Nat) (h : k < s.size) : s.data.toList.take (k + 1) = s.data.toList.take k ++ [s[k]] := by
  rw [List.take_succ_eq_append_getElem (by simpa using h)]; rfl
theorem take_size (s : ByteArray) : s.data.toList.take s.size = s.data.toList := List.take_of_length_le (by simp)
theorem take_all (s : ByteArray) (k : Nat) (h : k < s.size) (p : UInt8 → Bool) (ha : (s.data.toList.take k).all p = true) : (s.data.toList.take (k + 1)).all p = p s[k] := by
  rw [take_snoc s k h, List.all_append, ha]; simp
theorem all_no (s : ByteArray) (k : Nat) (h : k < s.size) (p : UInt8 → Bool) (hp : p s[k] = false) : s.data.toList.all p = false := by
  rw [List.all_eq_false]; exact ⟨s[k], Array.getElem_mem_toList _, by simp [hp]⟩
theorem drop_one (s : ByteArray) : (s.extract 1 s.size).data.toList = s.data.toList.drop 1 := by
  rw [Lib.extract_data, List.take_of_length_le (by simp)]
theorem data_nil (s : ByteArray) (h : s.size = 0) : s.data.toList = [] := by
  apply List.eq_nil_of_length_eq_zero; simpa using h
theorem data_cons (s : ByteArray) (h : 0 < s.size) : s.data.toList = s[0] :: s.data.toList.drop 1 := by
  have h' : 0 < s.data.toList.length := by simpa using h
  rw [List.drop_one]
  cases e : s.data.toList with
  | nil => rw [e] at h'; simp at h'
  | cons c r =>
    have : s[0] = s.data.toList[0] := rfl
    simp only [List.tail_cons, this]; congr 1
    simp [e]
/-- What append asks of a slice type t of elements e, 'size' cells and 'bytes' bytes each. -/
def AppStat (P : Program) (t e : TypeId) (size bytes : Nat) : Prop :=
  P.underlying t = some (.slice e) ∧ 0 < size ∧ 0 < bytes ∧ ∃ i z, P.info? e = some i ∧ i.zero = some z ∧ i.size = size ∧ i.bytes = bytes ∧ z.cells.size = size

section
variable {P : Program} {ops : Array Oper} {rest : List Oper} {o : Oper} {a : Act} {Q : Exit → Act → World → Prop} {w : World}

theorem owned_form {base : Nat} {e : TypeId} {size n : Nat} {v : Value} {xs : List Value} (h : w.ownsRow base e size v n xs) (hn : 0 < n) : ∃ g cap, v = .slice (some ⟨g, 0, none⟩) n cap ∧ base ≤ g := by
  rcases h.2 with ⟨_, h0⟩ | ⟨g, cap, cur, rfl, hg, _⟩
  · omega
  · exact ⟨g, cap, rfl, hg⟩

/-- 'append(s, x ..)' of what was just built, onto a slice of the call's own. -/
theorem app_new {t e : TypeId} {size bytes : Nat} (hst : AppStat P t e size bytes) (hgd : o.guard = none) (s x : Operand) (ho : o.op = .call { callee := .builtin .append, args := #[s, x], argTypes := #[t, t] })
    (base : Nat) (v : Value) (n : Nat) (xs : List Value) (hs : a.eval s = v) (hown : w.ownsRow base e size v n xs) (cs : Array Value) (ty : TypeId) (m : Nat)
    (hx : a.eval x = .slice (some ⟨w.heap.size, 0, none⟩) m m) (hl : cs.size = m * size) (h1 : ∀ u ∈ cs.toList, u.oneCell' = true) (hm : 0 < m) (hcap : (n + m) * bytes ≤ 140737488355328) (hbase : base ≤ w.heap.size)
    (h : ∀ g cap w', w'.ownsRow base e size (.slice (some ⟨g, 0, none⟩) (n + m) cap) (n + m) (xs ++ cs.toList) → w.grownBy w' v.ownBlock → Below base w w' → base ≤ g → wpList P ops Q rest (a.put o.dst (.slice (some ⟨g, 0, none⟩) (n + m) cap)) w') :
    wpList P ops Q (o :: rest) a (w.alloc (.cells cs ty)) := by
  obtain ⟨ht, hz0, hb0, i, z, hi, hz, hsz, hby, hzs⟩ := hst
  have hmax : n + m ≤ maxLen := by
    have : n + m ≤ (n + m) * bytes := Nat.le_mul_of_pos_right _ hb0
    unfold maxLen; omega
  refine wpList_append_own _ hgd s x t ho base e i z size bytes ht hi hz hsz hby hzs hz0 v n xs hs (hown.alloc _) ⟨w.heap.size, 0, none⟩ m m cs.toList hx (by simpa using hl) ?_ h1 hmax hcap (by simp; omega) ?_
  · intro j u hj
    rw [show (⟨w.heap.size, 0, none⟩ : Addr).add j = ⟨w.heap.size, 0 + j, none⟩ from by simp [Addr.add]; omega, cell_of_row _ w.heap.size (0 + j) cs ty (0, 0) (heap_alloc_new w _)]
    simpa using hj
  · intro v' w' hown' hg _
    obtain ⟨g, cap, rfl, hgb⟩ := owned_form hown' (by omega)
    have hg' : w.grownBy w' v.ownBlock := ⟨hg.os, hg.tape, hg.output, Nat.le_trans (by simp) hg.size, fun k hk hne => (hg.block k (by simp; omega) hne).trans (Below.heap_alloc w _ k hk)⟩
    refine h g cap w' hown' hg' ((Below.refl _ _).grown hg' hbase fun k hk => ?_) hgb
    exact (hown.lt k hk).1
end

theorem byte_lt (c : UInt8) : (0 : Int) ≤ c.toNat ∧ (c.toNat : Int) < 256 := by have := c.toNat_lt; omega

end Go.Proofs.YteiblfcehlibpaaGreatDoor
namespace Go.Proofs.YteiblfcehlibpaaGreatDoor
open Go.RowKit

/-- What make asks of a slice type t of elements e of one cell, z where nothing was written, of so many bytes. -/
def MakeStat (P : Program) (t e : TypeId) (z : Value) (bytes : Nat) : Prop :=
  P.underlying t = some (.slice e) ∧ z.cells = #[z] ∧ ∃ i, P.info? e = some i ∧ i.zero = some z ∧ i.size = 1 ∧ i.bytes = bytes

section
variable {P : Program} {ops : Array Oper} {rest : List Oper} {o : Oper} {a : Act} {Q : Exit → Act → World → Prop} {w : World}

theorem make_new {t e : TypeId} {z : Value} {bytes : Nat} (hst : MakeStat P t e z bytes) (hgd : o.guard = none) (l c : Operand) (ho : o.op = .makeSlice t l c) (n : Nat)
    (hl : a.eval l = .int .i64 (n : Int)) (hc : a.eval c = .int .i64 (n : Int)) (hb : bytes * n ≤ 281474976710656) (hm : n ≤ maxLen)
    (h : ∀ g w', w.heap.size ≤ g → w'.ownsRow w.heap.size e 1 (.slice (some ⟨g, 0, none⟩) n n) n (List.replicate n z) → Below w.heap.size w w' → wpList P ops Q rest (a.put o.dst (.slice (some ⟨g, 0, none⟩) n n)) w') :
    wpList P ops Q (o :: rest) a w := by
  obtain ⟨ht, hz, i, hi, hz0, hsz, hby⟩ := hst
  obtain ⟨w', hrun, hown, hg⟩ := run_make_full (P := P) w w.heap.size t e i z 1 ht hi hz0 hsz .i64 .i64 n (by rw [hby]; exact hb) hm (Nat.le_refl _)
  rw [Nat.mul_one, hz, toList_madeCells_one] at hown
  refine wpList_plain hgd fun K hK => ?_
  unfold Oper.wp
  have he : (execOp a.eval o).run P w = .ok (.value (.slice (some ⟨w.heap.size, 0, none⟩) n n)) w' := by
    simp only [execOp, ho, hl, hc]
    simp [hrun]
  rw [he]
  exact hK _ _ (h w.heap.size w' (Nat.le_refl _) hown ((Below.refl _ _).grown hg (Nat.le_refl _) fun k hk => by cases hk))
end

theorem owned_get {w : World} {base g n cap : Nat} {e : TypeId} {xs : List Value} (h : w.ownsRow base e 1 (.slice (some ⟨g, 0, none⟩) n cap) n xs) (j : Nat) (hj : j < n) (hl : j < xs.length) : w.cell? ⟨g, j, none⟩ = some xs[j] := by
  rw [h.cellAt j (by omega), List.getElem?_eq_getElem hl]
theorem owned_below {w w' : World} {base g n cap : Nat} {e : TypeId} {size : Nat} {xs : List Value} (h : w.ownsRow base e size (.slice (some ⟨g, 0, none⟩) n cap) n xs) (hb : Below w.heap.size w w') : w'.ownsRow base e size (.slice (some ⟨g, 0, none⟩) n cap) n xs := by
  have hl := (h.lt g rfl).2
  refine ⟨h.1, ?_⟩
  rcases h.2 with hn | ⟨g', cap', cur, hv, hbg, hgg, rest⟩
  · exact .inl hn
  · refine .inr ⟨g', cap', cur, hv, hbg, ?_, rest⟩
    cases hv
    rw [hb.block _ hl]; exact hgg
/-- A row of the call's own stays while another block is written. -/
theorem owned_far {w : World} {base g g2 j n cap : Nat} {e : TypeId} {size : Nat} {xs : List Value} (h : w.ownsRow base e size (.slice (some ⟨g, 0, none⟩) n cap) n xs) (hne : g ≠ g2) (u : Value) : (w.setCell ⟨g2, j, none⟩ u).ownsRow base e size (.slice (some ⟨g, 0, none⟩) n cap) n xs := by
  refine ⟨h.1, ?_⟩
  rcases h.2 with hn | ⟨g', cap', cur, hv, hbg, hgg, rest⟩
  · exact .inl hn
  · refine .inr ⟨g', cap', cur, hv, hbg, ?_, rest⟩
    cases hv
    rw [Below.heap_setCell _ _ _ _ hne]; exact hgg
theorem owned_drew {w : World} {base n : Nat} {e : TypeId} {size : Nat} {v : Value} {xs : List Value} (h : w.ownsRow base e size v n xs) : w.drew.ownsRow base e size v n xs := h
end Go.Proofs.YteiblfcehlibpaaGreatDoor
namespace Go.Proofs.YteiblfcehlibpaaGreatDoor.Sp

abbrev Bs := List UInt8

def low (c : UInt8) : Bool := decide (97 ≤ c) && decide (c ≤ 122) || decide (48 ≤ c) && decide (c ≤ 57)
/-- A byte that may stand in a name. -/
def sign (c : UInt8) : Bool := low c || c == 46 || c == 95 || c == 45
/-- A byte that may stand in a piece of a pattern. -/
def wild (c : UInt8) : Bool := sign c || c == 42 || c == 63
def name (s : Bs) : Bool := decide (s ≠ []) && decide (s.length ≤ 12) && decide (s ≠ [46]) && decide (s ≠ [46, 46]) && s.all sign

/-- What stands between the slashes. -/
def split : Bs → List Bs
  | [] => [[]]
  | c :: r => if c = 47 then [] :: split r else match split r with
    | h :: t => (c :: h) :: t
    | [] => [[c]]

theorem split_ne (s : Bs) : split s ≠ [] := by
  cases s with
  | nil => simp [split]
  | cons c r => unfold split; split; simp; split <;> simp

def parts (s : Bs) : List Bs :=
  if 51 < s.length then [] else if 4 < (split s).length then [] else if (split s).all name then split s else []
def check (s : Bs) : Int := if 51 < s.length then 2 else if (parts s).length = 0 then 1 else 0

/-- Two stars in a row somewhere. -/
def twoStars : Bs → Bool
  | 42 :: 42 :: _ => true
  | _ :: r => twoStars r
  | [] => false
def piece (s : Bs) : Bool := s.all wild && (decide (s ≠ []) && (decide (s = [42, 42]) || !twoStars s))
def gcheck (p : Bs) : Int :=
  if 8 < (split p).length then 2 else if (split p).any (fun s => decide (24 < s.length)) then 2 else if (split p).all piece then 0 else 7

/-- What a star is: nothing, or one more. -/
def star {α : Type} (f : List α → Bool) : List α → Bool
  | [] => f []
  | d :: s => f (d :: s) || star f s
/-- A piece over a name, byte by byte. -/
def pm : Bs → Bs → Bool
  | [], s => s.isEmpty
  | c :: p, s => if c = 42 then star (pm p) s else match s with
    | [] => false
    | d :: s => (decide (c = 63) || decide (c = d)) && pm p s
def gpiece (p n : Bs) : Bool := decide (p.length ≤ 24) && decide (p ≠ [42, 42]) && piece p && name n && pm p n
/-- A pattern over a path, piece by piece. -/
def lm : List Bs → List Bs → Bool
  | [], s => s.isEmpty
  | c :: p, s => if c = [42, 42] then star (lm p) s else match s with
    | [] => false
    | d :: s => gpiece c d && lm p s
def gmatch (p path : Bs) : Bool := decide (gcheck p = 0) && decide (parts path ≠ []) && lm (split p) (parts path)

theorem index_one (c : UInt8) (r : Bs) : Lib.index (c :: r) [47] = if c = 47 then 0 else if Lib.index r [47] = -1 then -1 else Lib.index r [47] + 1 := by
  rw [Lib.index]
  by_cases h : c = 47
  · subst h; simp
  · have : ([47] : Bs).isPrefixOf (c :: r) = false := by simp [List.isPrefixOf]; exact fun e => h e.symm
    rw [this]; simp [h]
theorem index_ge (r : Bs) : -1 ≤ Lib.index r [47] := by
  induction r with
  | nil => simp [Lib.index]
  | cons c r ih => rw [index_one]; (repeat' split) <;> omega
theorem splitK_split (s : Bs) : Lib.splitK [47] 0 (s.count 47) s = split s := by
  induction s with
  | nil => rfl
  | cons c r ih =>
    by_cases h : c = 47
    · subst h
      rw [List.count_cons_self, Lib.splitK, index_one]
      simp [split, ih]
    · rw [List.count_cons_of_ne h]
      unfold split
      rw [if_neg h, ← ih]
      cases hk : r.count 47 with
      | zero => simp [Lib.splitK]
      | succ k =>
        have hi : Lib.index r [47] ≠ -1 := fun e => by
          have := Lib.count_miss e; rw [Lib.count_one] at this; omega
        have hg := index_ge r
        rw [Lib.splitK, Lib.splitK, index_one, if_neg h, if_neg hi]
        obtain ⟨i, hi'⟩ : ∃ i : Nat, Lib.index r [47] = i := ⟨(Lib.index r [47]).toNat, by omega⟩
        rw [hi']
        rw [if_neg (by simp <;> omega), if_neg (by simp <;> omega)]
        simp only [Int.toNat_natCast, Nat.add_zero, List.length_singleton]
        rw [show ((i : Int) + 1).toNat = i + 1 from by omega]
        simp
theorem split_lib (s : ByteArray) : (Lib.splitB ⟨#[47]⟩ 0 (Lib.countB s ⟨#[47]⟩) s).map (·.data.toList) = split s.data.toList := by
  rw [Lib.splitB_data, ← splitK_split, ← Lib.count_one]
theorem split_len (s : ByteArray) : (Lib.splitB ⟨#[47]⟩ 0 (Lib.countB s ⟨#[47]⟩) s).length = (split s.data.toList).length := by rw [← split_lib, List.length_map]
theorem countB_split (s : ByteArray) : Lib.countB s ⟨#[47]⟩ + 1 = (split s.data.toList).length := by
  have h : ∀ l : Bs, l.count 47 + 1 = (split l).length := by
    intro l
    induction l with
    | nil => rfl
    | cons c r ih =>
      unfold split
      by_cases h : c = 47
      · subst h; simp [← ih]
      · rw [if_neg h, List.count_cons_of_ne h, ih]; split <;> simp_all
  rw [← h, ← Lib.count_one]
theorem split_mem_le (s : Bs) : ∀ x ∈ split s, x.length ≤ s.length := by
  induction s with
  | nil => simp [split]
  | cons c r ih =>
    unfold split
    split
    · intro x hx
      rcases List.mem_cons.1 hx with rfl | hx
      · simp
      · have := ih x hx; simp; omega
    · split
      · rename_i h t e
        intro x hx
        rw [e] at ih
        rcases List.mem_cons.1 hx with rfl | hx
        · have := ih h (by simp); simp; omega
        · have := ih x (by simp [hx]); simp; omega
      · intro x hx; simp at hx; subst hx; simp
theorem contains_two (s : Bs) : Lib.contains s [42, 42] = twoStars s := by
  have key : ∀ s : Bs, -1 ≤ Lib.index s [42, 42] ∧ (0 ≤ Lib.index s [42, 42] ↔ twoStars s = true) := by
    intro s
    induction s with
    | nil => simp [Lib.index, twoStars]
    | cons c r ih =>
      unfold Lib.index
      by_cases h : ([42, 42] : Bs).isPrefixOf (c :: r) = true
      · rw [if_pos h]
        cases r with
        | nil => simp [List.isPrefixOf] at h
        | cons d r =>
          simp [List.isPrefixOf] at h
          obtain ⟨rfl, rfl⟩ := h
          simp [twoStars]
      · rw [if_neg h]
        have ht : twoStars (c :: r) = twoStars r := by
          cases r with
          | nil => simp [twoStars]
          | cons d r =>
            simp [List.isPrefixOf] at h
            rw [twoStars]
            intro r' e

            intro e1; injection e1 with a _; exact h e.symm a.symm
        rw [ht]
        by_cases e : Lib.index r [42, 42] = -1
        · rw [e] at ih ⊢; simpa using ih.2
        · have := ih.1; simp only [beq_iff_eq, e, if_false]; exact ⟨by omega, by rw [← ih.2]; omega⟩
  unfold Lib.contains
  rw [Bool.eq_iff_iff, decide_eq_true_eq]
  exact (key s).2

end Go.Proofs.YteiblfcehlibpaaGreatDoor.Sp
namespace Go.Proofs.YteiblfcehlibpaaGreatDoor
open Go.RowKit
/-- Block g is such cells. -/
abbrev isBlk (w : World) (g : Nat) (t : TypeId) (cs : Array Value) : Prop := w.heap[g]? = some (.cells cs t (0, 0))
section
variable {P : Program} {ops : Array Oper} {rest : List Oper} {o : Oper} {a : Act} {Q : Exit → Act → World → Prop} {w : World}
theorem box_new {cs : Array Value} {t : TypeId} (hgd : o.guard = none)
    (hrun : (execOp a.eval o).run P w = .ok (.value (.pointer (some ⟨w.heap.size, 0, none⟩))) (w.alloc (.cells cs t (0, 0))))
    (h : ∀ g w', w.heap.size ≤ g → isBlk w' g t cs → Below w.heap.size w w' → wpList P ops Q rest (a.put o.dst (.pointer (some ⟨g, 0, none⟩))) w') : wpList P ops Q (o :: rest) a w := by
  refine wpList_plain hgd fun K hK => ?_
  unfold Oper.wp
  rw [hrun]
  exact hK _ _ (h w.heap.size _ (Nat.le_refl _) (heap_alloc_new w _) ((Below.refl _ _).alloc (Nat.le_refl _) _))
/-- For an arm of the walk's: this operation is an allocation of type t. -/
theorem at_alloc {t : TypeId} (_ho : o.op = .alloc t) (h : wpList P ops Q (o :: rest) a w) : wpList P ops Q (o :: rest) a w := h
theorem at_box {t : TypeId} {x : Operand} (_ho : o.op = .box t x) (h : wpList P ops Q (o :: rest) a w) : wpList P ops Q (o :: rest) a w := h
end
theorem isBlk.lt {w : World} {g : Nat} {t : TypeId} {cs : Array Value} (h : isBlk w g t cs) : g < w.heap.size := by
  rcases Nat.lt_or_ge g w.heap.size with h1 | h1
  · exact h1
  · rw [isBlk, Array.getElem?_eq_none h1] at h; cases h
theorem isBlk.cell {w : World} {g : Nat} {t : TypeId} {cs : Array Value} (h : isBlk w g t cs) (i : Nat) : w.cell? ⟨g, i, none⟩ = cs[i]? := cell_of_row w g i cs t (0, 0) h
theorem isBlk.at {w : World} {g : Nat} {t : TypeId} {cs : Array Value} (h : isBlk w g t cs) (i : Nat) (hi : i < cs.size) : w.cell? ⟨g, i, none⟩ = some cs[i] := by rw [h.cell i, Array.getElem?_eq_getElem hi]
theorem isBlk.frozen {w : World} {g : Nat} {t : TypeId} {cs : Array Value} (h : isBlk w g t cs) (i : Nat) : w.frozen? ⟨g, i, none⟩ = false := by simp [World.frozen?, h]
theorem isBlk.shape {w : World} {g : Nat} {t : TypeId} {cs : Array Value} (h : isBlk w g t cs) : w.shape? g = some (t, cs.size) := by simp [World.shape?, h]
theorem isBlk.below {w w1 : World} {g : Nat} {t : TypeId} {cs : Array Value} (h : isBlk w g t cs) (hb : Below w.heap.size w w1) : isBlk w1 g t cs := (hb.block g h.lt).trans h
theorem isBlk.drew {w : World} {g : Nat} {t : TypeId} {cs : Array Value} (h : isBlk w g t cs) : isBlk w.drew g t cs := h
theorem isBlk.drewN {w : World} {g : Nat} {t : TypeId} {cs : Array Value} (h : isBlk w g t cs) (n : Nat) : isBlk (w.drewN n) g t cs := h
theorem isBlk.alloc {w : World} {g : Nat} {t : TypeId} {cs : Array Value} (h : isBlk w g t cs) (o : Obj) : isBlk (w.alloc o) g t cs := (Below.heap_alloc w o g h.lt).trans h
theorem isBlk.put {w : World} {g : Nat} {t : TypeId} {cs cs' : Array Value} (h : isBlk w g t cs) (i : Nat) (u : Value) (e : cs.setIfInBounds i u = cs') : isBlk (w.setCell ⟨g, i, none⟩ u) g t cs' := by
  subst e
  have hl := h.lt
  unfold isBlk World.setCell at *
  rw [Array.getElem?_eq_getElem hl] at h
  rw [Array.getElem?_eq_getElem (by simpa using hl), Array.getElem_modify]
  simp only [Option.some.injEq] at h ⊢
  simp [h]
theorem isBlk.far {w : World} {g g2 j : Nat} {t : TypeId} {cs : Array Value} (h : isBlk w g t cs) (hne : g ≠ g2) (u : Value) : isBlk (w.setCell ⟨g2, j, none⟩ u) g t cs := by
  unfold isBlk; rw [Below.heap_setCell _ _ _ _ hne]; exact h
end Go.Proofs.YteiblfcehlibpaaGreatDoor
