/- What a sum of thirty-two bits is: plain. -/
import Derived.Test.YtbjdgiocehoaiaaDoorHand
import Derived.Laws.BitsLemmas
import Derived.Lib.EndianBits
namespace Go.Proofs.YtbjdgiocehoaiaaDoor
namespace Sp
def crcBit (v : Nat) : Nat := if v % 2 = 1 then (v / 2) ^^^ 3988292384 else v / 2
def crcBits : Nat → Nat → Nat
  | 0, v => v
  | n + 1, v => crcBit (crcBits n v)
def crcByte (v : Nat) (b : UInt8) : Nat := crcBits 8 (v ^^^ b.toNat)
def crcGo (l : List UInt8) : Nat := l.foldl crcByte 4294967295
def crc (l : List UInt8) : Nat := 4294967295 - crcGo l
theorem xor_lt {a b : Nat} (ha : a < 4294967296) (hb : b < 4294967296) : a ^^^ b < 4294967296 := Nat.xor_lt_two_pow (n := 32) ha hb
theorem crcBit_lt {v : Nat} (h : v < 4294967296) : crcBit v < 4294967296 := by
  unfold crcBit
  split
  · exact xor_lt (by omega) (by decide)
  · omega
theorem crcBits_lt {v : Nat} (h : v < 4294967296) : ∀ n, crcBits n v < 4294967296
  | 0 => h
  | n + 1 => crcBit_lt (crcBits_lt h n)
theorem crcByte_lt {v : Nat} {b : UInt8} (h : v < 4294967296) : crcByte v b < 4294967296 := crcBits_lt (xor_lt h (by have := b.toNat_lt; omega)) 8
theorem foldl_lt : ∀ (l : List UInt8) {v : Nat}, v < 4294967296 → l.foldl crcByte v < 4294967296
  | [], _, h => h
  | _ :: l, _, h => foldl_lt l (crcByte_lt h)
theorem crcGo_lt (l : List UInt8) : crcGo l < 4294967296 := foldl_lt l (by decide)
theorem crcGo_snoc (l : List UInt8) (b : UInt8) : crcGo (l ++ [b]) = crcByte (crcGo l) b := by simp [crcGo]
/-- The four bytes of a sum. -/
def le4 (v : Nat) : List UInt8 := [UInt8.ofNat v, UInt8.ofNat (v / 256), UInt8.ofNat (v / 65536), UInt8.ofNat (v / 16777216)]
def sealed (l : List UInt8) : List UInt8 := l ++ le4 (crc l)
/-- What is sealed, if anything is. -/
def opened (l : List UInt8) : Option (List UInt8) := if l.length < 4 then none else if sealed (l.take (l.length - 4)) = l then some (l.take (l.length - 4)) else none
end Sp
theorem wr32 (n : Int) (h0 : 0 ≤ n) (h1 : n < 2 ^ 32) : IntKind.u32.wrap n = n := by rw [IntKind.wrap_u32]; omega
theorem bits_xor_u32_nat (a b : Nat) (ha : a < 4294967296) (hb : b < 4294967296) : bits .xor .u32 (a : Int) (b : Int) = ((a ^^^ b : Nat) : Int) := by
  have h1 : (BitVec.ofInt 32 (a : Int)).toNat = a := by rw [BitVec.ofInt_natCast, BitVec.toNat_ofNat]; exact Nat.mod_eq_of_lt (by omega)
  have h2 : (BitVec.ofInt 32 (b : Int)).toNat = b := by rw [BitVec.ofInt_natCast, BitVec.toNat_ofNat]; exact Nat.mod_eq_of_lt (by omega)
  have h3 : a ^^^ b < 4294967296 := Nat.xor_lt_two_pow (n := 32) ha hb
  show IntKind.u32.wrap ((BitVec.ofInt 32 (a : Int) ^^^ BitVec.ofInt 32 (b : Int)).toNat : Int) = _
  rw [BitVec.toNat_xor, h1, h2, wr32 _ (Int.natCast_nonneg _) (by omega)]
theorem bits_and1_u32 (a : Nat) (ha : a < 4294967296) : bits .and .u32 (a : Int) 1 = ((a % 2 : Nat) : Int) := by
  have h := bits_mask .u32 32 (by decide) wr32 1 (by decide) a (by omega) (by omega)
  simpa using h
theorem xor_ones32 (b : Nat) (hb : b < 2 ^ 32) : (2 ^ 32 - 1) ^^^ b = 2 ^ 32 - 1 - b := by
  apply Nat.eq_of_testBit_eq
  intro i
  rw [Nat.testBit_xor, Nat.testBit_two_pow_sub_one, show 2 ^ 32 - 1 - b = 2 ^ 32 - (b + 1) by omega, Nat.testBit_two_pow_sub_succ hb]
  by_cases hi : i < 32
  · simp [hi]
  · have : b.testBit i = false := Nat.testBit_lt_two_pow (Nat.lt_of_lt_of_le hb (Nat.pow_le_pow_right (by decide) (by omega)))
    simp [hi, this]
end Go.Proofs.YtbjdgiocehoaiaaDoor
