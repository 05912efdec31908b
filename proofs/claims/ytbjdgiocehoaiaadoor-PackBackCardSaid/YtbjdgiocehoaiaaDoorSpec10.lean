/- What a reader takes: plain. -/
import Derived.Test.YtbjdgiocehoaiaaDoorSpec01
namespace Go.Proofs.YtbjdgiocehoaiaaDoor
namespace Sp
/-- A reader is what is left, and what is wrong. -/
abbrev R := List UInt8 × Int
def rpiece {α : Type} (none : α) (p : α × Nat × Int) (x : R) : α × R := if x.2 ≠ 0 then (none, x) else if p.2.2 ≠ 0 then (none, (x.1, p.2.2)) else (p.1, (x.1.drop p.2.1, 0))
def pnum (most : Int) (l : List UInt8) : Nat × Nat × Int := ((take l).1, (take l).2.1, if (take l).2.2 = 0 ∧ most < (take l).1 then 2 else (take l).2.2)
def ptext (most : Int) (l : List UInt8) : List UInt8 × Nat × Int :=
  if (pnum most l).2.2 ≠ 0 then ([], 0, (pnum most l).2.2) else if l.length < (pnum most l).2.1 + (pnum most l).1 then ([], 0, 5) else ((l.drop (pnum most l).2.1).take (pnum most l).1, (pnum most l).2.1 + (pnum most l).1, 0)
def rnum (most : Int) (x : R) : Nat × R := rpiece 0 (pnum most x.1) x
def rtext (most : Int) (x : R) : List UInt8 × R := rpiece [] (ptext most x.1) x
def rdone (x : R) : Int := if x.2 ≠ 0 then x.2 else if x.1 = [] then 0 else 6
theorem take_bound (l : List UInt8) : (take l).1 ≤ 1073741824 ∧ (take l).2.1 ≤ 5 ∧ (take l).2.1 ≤ l.length := by
  unfold take
  cases h : cend l 5 0 with
  | none => simp only []; split <;> simp
  | some i =>
    have hi := cend_some h
    simp only []
    split
    · simp
    · split
      · simp
      · simp only []; omega
theorem take_zero {l : List UInt8} (h : (take l).2.2 ≠ 0) : (take l).1 = 0 ∧ (take l).2.1 = 0 := by
  unfold take at *
  cases hc : cend l 5 0 with
  | none => simp only []; split <;> simp
  | some i =>
    rw [hc] at h
    simp only [] at h ⊢
    split
    · simp
    · split
      · simp
      · rename_i h1 h2; rw [if_neg h1, if_neg h2] at h; exact absurd rfl h
theorem pnum_bound (most : Int) (l : List UInt8) : (pnum most l).1 ≤ 1073741824 ∧ (pnum most l).2.1 ≤ 5 ∧ (pnum most l).2.1 ≤ l.length := take_bound l
theorem pnum_most {most : Int} {l : List UInt8} (h : (pnum most l).2.2 = 0) : ((pnum most l).1 : Int) ≤ most := by
  unfold pnum at *
  simp only [] at h ⊢
  split at h
  · omega
  · omega
theorem ptext_bound (most : Int) (l : List UInt8) : (ptext most l).2.1 ≤ l.length ∧ (ptext most l).1.length ≤ l.length := by
  have := pnum_bound most l
  unfold ptext; split
  · simp
  · split
    · simp
    · simp; omega
theorem ptext_most {most : Int} {l : List UInt8} (hm : 0 ≤ most) : ((ptext most l).1.length : Int) ≤ most := by
  unfold ptext
  split
  · simpa using hm
  · rename_i h
    have := pnum_most (Decidable.not_not.1 h)
    split
    · simpa using hm
    · simp; omega
theorem rnum_len (most : Int) (x : R) : (rnum most x).2.1.length ≤ x.1.length := by
  unfold rnum rpiece; split
  · exact Nat.le_refl _
  · split <;> simp
theorem rtext_len (most : Int) (x : R) : (rtext most x).2.1.length ≤ x.1.length := by
  unfold rtext rpiece; split
  · exact Nat.le_refl _
  · split <;> simp
theorem rnum_most {most : Int} (hm : 0 ≤ most) (x : R) : ((rnum most x).1 : Int) ≤ most := by
  unfold rnum rpiece; split
  · simpa using hm
  · split
    · simpa using hm
    · rename_i h; exact pnum_most (Decidable.not_not.1 h)
theorem rtext_most {most : Int} (hm : 0 ≤ most) (x : R) : ((rtext most x).1.length : Int) ≤ most := by
  unfold rtext rpiece; split
  · simpa using hm
  · split
    · simpa using hm
    · exact ptext_most hm
/-- A text by way of its number. -/
theorem rtext_eq (most : Int) (x : R) : rtext most x = if (rnum most x).2.2 ≠ 0 then ([], (rnum most x).2) else if (rnum most x).2.1.length < (rnum most x).1 then ([], (x.1, 5))
    else ((rnum most x).2.1.take (rnum most x).1, ((rnum most x).2.1.drop (rnum most x).1, 0)) := by
  have hb := pnum_bound most x.1
  unfold rtext rnum rpiece ptext
  by_cases h : x.2 ≠ 0
  · rw [if_pos h, if_pos h]; simp only []; rw [if_pos h]
  · rw [if_neg h, if_neg h]
    by_cases h1 : (pnum most x.1).2.2 ≠ 0
    · rw [if_pos h1, if_pos h1]; simp only []; rw [if_pos h1, if_pos h1]
    · rw [if_neg h1, if_neg h1]
      simp only [List.length_drop]
      rw [if_neg (by simp : ¬ ((0 : Int) ≠ 0))]
      by_cases h2 : x.1.length < (pnum most x.1).2.1 + (pnum most x.1).1
      · have h3 : x.1.length - (pnum most x.1).2.1 < (pnum most x.1).1 := by omega
        rw [if_pos h2, if_pos h3]; simp
      · have h3 : ¬ x.1.length - (pnum most x.1).2.1 < (pnum most x.1).1 := by omega
        rw [if_neg h2, if_neg h3]; simp [List.drop_drop]
end Sp
end Go.Proofs.YtbjdgiocehoaiaaDoor
