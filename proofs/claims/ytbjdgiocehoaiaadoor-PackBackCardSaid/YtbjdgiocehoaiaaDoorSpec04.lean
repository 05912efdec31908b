/- The plain law of chapters 4 and 44: names, pieces, paths, patterns, over lists of bytes; no program. -/
import Derived.Lib.Split
import Derived.Lib.SplitLaws
import Derived.Lib.CountLaws
namespace Go.Proofs.YtbjdgiocehoaiaaDoor.Sp

abbrev Bs := List UInt8

def low (c : UInt8) : Bool := decide (97 ≤ c) && decide (c ≤ 122) || decide (48 ≤ c) && decide (c ≤ 57)
/-- A byte that may stand in a name. -/
def sign (c : UInt8) : Bool := low c || c == 46 || c == 95 || c == 45
/-- A byte that may stand in a piece of a pattern. -/
def wild (c : UInt8) : Bool := sign c || c == 42 || c == 63
def name (s : Bs) : Bool := decide (s ≠ []) && decide (s.length ≤ 12) && decide (s ≠ [46]) && decide (s ≠ [46, 46]) && s.all sign

/-- What stands between the slashes. -/
def split : Bs → List Bs
  | [] => [[]]
  | c :: r => if c = 47 then [] :: split r else match split r with
    | h :: t => (c :: h) :: t
    | [] => [[c]]

theorem split_ne (s : Bs) : split s ≠ [] := by
  cases s with
  | nil => simp [split]
  | cons c r => unfold split; split; simp; split <;> simp

def parts (s : Bs) : List Bs :=
  if 51 < s.length then [] else if 4 < (split s).length then [] else if (split s).all name then split s else []
def check (s : Bs) : Int := if 51 < s.length then 2 else if (parts s).length = 0 then 1 else 0

/-- Two stars in a row somewhere. -/
def twoStars : Bs → Bool
  | 42 :: 42 :: _ => true
  | _ :: r => twoStars r
  | [] => false
def piece (s : Bs) : Bool := s.all wild && (decide (s ≠ []) && (decide (s = [42, 42]) || !twoStars s))
def gcheck (p : Bs) : Int :=
  if 8 < (split p).length then 2 else if (split p).any (fun s => decide (24 < s.length)) then 2 else if (split p).all piece then 0 else 7

/-- What a star is: nothing, or one more. -/
def star {α : Type} (f : List α → Bool) : List α → Bool
  | [] => f []
  | d :: s => f (d :: s) || star f s
/-- A piece over a name, byte by byte. -/
def pm : Bs → Bs → Bool
  | [], s => s.isEmpty
  | c :: p, s => if c = 42 then star (pm p) s else match s with
    | [] => false
    | d :: s => (decide (c = 63) || decide (c = d)) && pm p s
def gpiece (p n : Bs) : Bool := decide (p.length ≤ 24) && decide (p ≠ [42, 42]) && piece p && name n && pm p n
/-- A pattern over a path, piece by piece. -/
def lm : List Bs → List Bs → Bool
  | [], s => s.isEmpty
  | c :: p, s => if c = [42, 42] then star (lm p) s else match s with
    | [] => false
    | d :: s => gpiece c d && lm p s
def gmatch (p path : Bs) : Bool := decide (gcheck p = 0) && decide (parts path ≠ []) && lm (split p) (parts path)

theorem index_one (c : UInt8) (r : Bs) : Lib.index (c :: r) [47] = if c = 47 then 0 else if Lib.index r [47] = -1 then -1 else Lib.index r [47] + 1 := by
  rw [Lib.index]
  by_cases h : c = 47
  · subst h; simp
  · have : ([47] : Bs).isPrefixOf (c :: r) = false := by simp [List.isPrefixOf]; exact fun e => h e.symm
    rw [this]; simp [h]
theorem index_ge (r : Bs) : -1 ≤ Lib.index r [47] := by
  induction r with
  | nil => simp [Lib.index]
  | cons c r ih => rw [index_one]; (repeat' split) <;> omega
theorem splitK_split (s : Bs) : Lib.splitK [47] 0 (s.count 47) s = split s := by
  induction s with
  | nil => rfl
  | cons c r ih =>
    by_cases h : c = 47
    · subst h
      rw [List.count_cons_self, Lib.splitK, index_one]
      simp [split, ih]
    · rw [List.count_cons_of_ne h]
      unfold split
      rw [if_neg h, ← ih]
      cases hk : r.count 47 with
      | zero => simp [Lib.splitK]
      | succ k =>
        have hi : Lib.index r [47] ≠ -1 := fun e => by
          have := Lib.count_miss e; rw [Lib.count_one] at this; omega
        have hg := index_ge r
        rw [Lib.splitK, Lib.splitK, index_one, if_neg h, if_neg hi]
        obtain ⟨i, hi'⟩ : ∃ i : Nat, Lib.index r [47] = i := ⟨(Lib.index r [47]).toNat, by omega⟩
        rw [hi']
        rw [if_neg (by simp <;> omega), if_neg (by simp <;> omega)]
        simp only [Int.toNat_natCast, Nat.add_zero, List.length_singleton]
        rw [show ((i : Int) + 1).toNat = i + 1 from by omega]
        simp
theorem split_lib (s : ByteArray) : (Lib.splitB ⟨#[47]⟩ 0 (Lib.countB s ⟨#[47]⟩) s).map (·.data.toList) = split s.data.toList := by
  rw [Lib.splitB_data, ← splitK_split, ← Lib.count_one]
theorem split_len (s : ByteArray) : (Lib.splitB ⟨#[47]⟩ 0 (Lib.countB s ⟨#[47]⟩) s).length = (split s.data.toList).length := by rw [← split_lib, List.length_map]
theorem countB_split (s : ByteArray) : Lib.countB s ⟨#[47]⟩ + 1 = (split s.data.toList).length := by
  have h : ∀ l : Bs, l.count 47 + 1 = (split l).length := by
    intro l
    induction l with
    | nil => rfl
    | cons c r ih =>
      unfold split
      by_cases h : c = 47
      · subst h; simp [← ih]
      · rw [if_neg h, List.count_cons_of_ne h, ih]; split <;> simp_all
  rw [← h, ← Lib.count_one]
theorem split_mem_le (s : Bs) : ∀ x ∈ split s, x.length ≤ s.length := by
  induction s with
  | nil => simp [split]
  | cons c r ih =>
    unfold split
    split
    · intro x hx
      rcases List.mem_cons.1 hx with rfl | hx
      · simp
      · have := ih x hx; simp; omega
    · split
      · rename_i h t e
        intro x hx
        rw [e] at ih
        rcases List.mem_cons.1 hx with rfl | hx
        · have := ih h (by simp); simp; omega
        · have := ih x (by simp [hx]); simp; omega
      · intro x hx; simp at hx; subst hx; simp
theorem contains_two (s : Bs) : Lib.contains s [42, 42] = twoStars s := by
  have key : ∀ s : Bs, -1 ≤ Lib.index s [42, 42] ∧ (0 ≤ Lib.index s [42, 42] ↔ twoStars s = true) := by
    intro s
    induction s with
    | nil => simp [Lib.index, twoStars]
    | cons c r ih =>
      unfold Lib.index
      by_cases h : ([42, 42] : Bs).isPrefixOf (c :: r) = true
      · rw [if_pos h]
        cases r with
        | nil => simp [List.isPrefixOf] at h
        | cons d r =>
          simp [List.isPrefixOf] at h
          obtain ⟨rfl, rfl⟩ := h
          simp [twoStars]
      · rw [if_neg h]
        have ht : twoStars (c :: r) = twoStars r := by
          cases r with
          | nil => simp [twoStars]
          | cons d r =>
            simp [List.isPrefixOf] at h
            rw [twoStars]
            intro r' e

            intro e1; injection e1 with a _; exact h e.symm a.symm
        rw [ht]
        by_cases e : Lib.index r [42, 42] = -1
        · rw [e] at ih ⊢; simpa using ih.2
        · have := ih.1; simp only [beq_iff_eq, e, if_false]; exact ⟨by omega, by rw [← ih.2]; omega⟩
  unfold Lib.contains
  rw [Bool.eq_iff_iff, decide_eq_true_eq]
  exact (key s).2

end Go.Proofs.YtbjdgiocehoaiaaDoor.Sp
