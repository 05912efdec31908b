/- What a number's bytes are: plain. -/
import Derived.Test.YtbjdgiocehoaiaaDoorBytes
import Derived.Laws.BitsLemmas
namespace Go.Proofs.YtbjdgiocehoaiaaDoor
namespace Sp
/-- A number's bytes, the lowest first. -/
def cput (n : Nat) : List UInt8 := if n < 128 then [UInt8.ofNat n] else UInt8.ofNat (n % 128 + 128) :: cput (n / 128)
termination_by n
decreasing_by omega
def put (n : Int) : List UInt8 := if 0 ≤ n ∧ n ≤ 1073741824 then cput n.toNat else []
/-- The number of bytes. -/
def num : List UInt8 → Nat
  | [] => 0
  | b :: l => b.toNat % 128 + 128 * num l
/-- The place of the first byte below 128, from place i on, among so many. -/
def cend (l : List UInt8) : Nat → Nat → Option Nat
  | 0, _ => none
  | f + 1, i => match l[i]? with
    | none => none
    | some b => if b.toNat < 128 then some i else cend l f (i + 1)
/-- The number that bytes begin with, how many bytes it has, or what is wrong. -/
def take (l : List UInt8) : Nat × Nat × Int := match cend l 5 0 with
  | none => if l.length < 5 then (0, 0, 5) else (0, 0, 2)
  | some i => if l[i]? = some 0 ∧ 0 < i then (0, 0, 7) else if 1073741824 < num (l.take (i + 1)) then (0, 0, 2) else (num (l.take (i + 1)), i + 1, 0)
theorem num_lt : ∀ l : List UInt8, num l < 128 ^ l.length
  | [] => by decide
  | b :: l => by
    have := num_lt l
    have h2 : b.toNat % 128 < 128 := Nat.mod_lt _ (by decide)
    simp only [num, List.length_cons, Nat.pow_succ]
    omega
theorem num_snoc (b : UInt8) : ∀ l : List UInt8, num (l ++ [b]) = num l + 128 ^ l.length * (b.toNat % 128)
  | [] => by simp [num]
  | c :: l => by
    simp only [List.cons_append, num, num_snoc b l, List.length_cons, Nat.pow_succ]
    rw [Nat.mul_add, Nat.mul_comm (128 ^ l.length) 128, Nat.mul_assoc]; omega
theorem cend_some {l : List UInt8} : ∀ {f i k : Nat}, cend l f i = some k → i ≤ k ∧ k < i + f ∧ k < l.length
  | 0, _, _, h => by simp [cend] at h
  | f + 1, i, k, h => by
    unfold cend at h
    cases hl : l[i]? with
    | none => rw [hl] at h; cases h
    | some b =>
      rw [hl] at h
      simp only [] at h
      have hi : i < l.length := (List.getElem?_eq_some_iff.1 hl).1
      split at h
      · injection h with h; omega
      · have := cend_some h; omega
theorem cput_len (n : Nat) (h : n ≤ 1073741824) : (cput n).length ≤ 5 := by
  rw [cput]; split
  · simp
  · rw [cput]; split
    · simp
    · rw [cput]; split
      · simp
      · rw [cput]; split
        · simp
        · rw [cput]; split
          · simp
          · exfalso; omega
theorem cput_ne (n : Nat) : cput n ≠ [] := by rw [cput]; split <;> simp
theorem put_ne {n : Int} : put n ≠ [] ↔ 0 ≤ n ∧ n ≤ 1073741824 := by
  unfold put; split
  · simp [cput_ne, *]
  · simp [*]
theorem put_len (n : Int) : (put n).length ≤ 5 := by
  unfold put; split
  · exact cput_len _ (by omega)
  · simp
end Sp
theorem or128 (x y : Nat) (hx : x < 4294967296) (hy : y < 128) : bits .or .i64 ((x : Int) * 128) (y : Int) = ((128 * x + y : Nat) : Int) := by
  have h := (bits_nat .i64 63 (by decide) (fun n h0 h1 => IntWalk.i64_in n (by omega)) (128 * x) y (by omega) (by omega)).2
  rw [show (x : Int) * 128 = ((128 * x : Nat) : Int) by omega, h]
  have : (128 * x) ||| y = 128 * x + y := by
    have := Nat.two_pow_add_eq_or_of_lt (i := 7) hy x
    simpa using this.symm
  rw [this]
end Go.Proofs.YtbjdgiocehoaiaaDoor
