/- The plain words of layer 26: digits, seals. -/
import Derived.Test.YtjmglbppmolipaaGreatDoorBA
import Derived.Test.YtjmglbppmolipaaGreatDoorCrcMath
import Derived.Lib.ItoaNum
namespace Go.Proofs.YtjmglbppmolipaaGreatDoor
open Go.Lib

/-- the k lowest decimal digits of n -/
def lowD : Nat → Nat → List UInt8
  | 0, _ => []
  | k + 1, n => lowD k (n / 10) ++ [UInt8.ofNat (48 + n % 10)]
/-- a numeral, filled up with zeros to k digits -/
def padD (k n : Nat) : List UInt8 := List.replicate (k - (decDigits n).length) 48 ++ decDigits n

theorem lowD_len : ∀ k n, (lowD k n).length = k
  | 0, _ => rfl
  | k + 1, n => by simp [lowD, lowD_len k]
theorem lowD_cons : ∀ k n, lowD (k + 1) n = UInt8.ofNat (48 + n / 10 ^ k % 10) :: lowD k n
  | 0, n => by simp [lowD]
  | k + 1, n => by
    have h := lowD_cons k (n / 10)
    have e : n / 10 / 10 ^ k = n / 10 ^ (k + 1) := by rw [Nat.div_div_eq_div_mul, Nat.pow_succ, Nat.mul_comm]
    show lowD (k + 1) (n / 10) ++ _ = _
    rw [h, e]
    rfl
theorem decDigits_pos (n : Nat) : 1 ≤ (decDigits n).length := by rw [decDigits_length]; exact nDigits_pos n
theorem lowD_zero : ∀ k, lowD k 0 = List.replicate k 48
  | 0 => rfl
  | k + 1 => by
    show lowD k (0 / 10) ++ [UInt8.ofNat 48] = _
    rw [Nat.zero_div, lowD_zero k, List.replicate_succ']
    rfl
theorem lowD_pad : ∀ k n, n < 10 ^ (k + 1) → lowD (k + 1) n = padD (k + 1) n
  | k, n, h => by
    by_cases h1 : n < 10
    · show lowD k (n / 10) ++ _ = _
      unfold padD
      rw [decDigits_one h1, Nat.div_eq_of_lt h1, lowD_zero, Nat.mod_eq_of_lt h1]
      simp
    · match k, h with
      | 0, h => simp at h; omega
      | k + 1, h =>
        have ih := lowD_pad k (n / 10) (by rw [Nat.pow_succ] at h; omega)
        show lowD (k + 1) (n / 10) ++ _ = _
        rw [ih]
        unfold padD
        have e : decDigits n = decDigits (n / 10) ++ [UInt8.ofNat (48 + n % 10)] := by rw [decDigits, dif_neg h1]
        rw [e, List.length_append, List.length_singleton, Nat.add_sub_add_right, List.append_assoc]

/-- the checksum of bytes, as a number -/
def crcS (l : List UInt8) : Nat := (Crc.upd Crc.ini l).toNat
theorem crcS_lt (l : List UInt8) : crcS l < 4294967296 := (Crc.upd Crc.ini l).isLt
/-- bytes and their checksum -/
def sealB (l : List UInt8) : List UInt8 := l ++ lowD 10 (crcS l)
theorem seal_pad (l : List UInt8) : sealB l = l ++ padD 10 (crcS l) := by
  unfold sealB
  rw [lowD_pad 9 _ (Nat.lt_of_lt_of_le (crcS_lt l) (by decide))]
theorem sealB_len (l : List UInt8) : (sealB l).length = l.length + 10 := by unfold sealB; rw [List.length_append, lowD_len]
end Go.Proofs.YtjmglbppmolipaaGreatDoor
