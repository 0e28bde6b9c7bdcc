/- Contract of the reference's ToBytes. (Layer 26) -/
import Derived.Test.YtlkiaeelnbjchaaDoorPfRDec
namespace Go.Proofs.YtlkiaeelnbjchaaDoor
open Go.RowKit
open Go.Lib hiding intOf
set_option linter.unusedVariables false

theorem acc_pow (l : List UInt8) (h : l.length = 8) : ∀ k, k ≤ 8 → (l.take k).foldl accB 0 < 2 ^ k
  | 0, _ => by simp
  | k + 1, hk => by
    have ih := acc_pow l h k (by omega)
    rw [acc_snoc l k (by omega), Nat.pow_succ]
    generalize (l.take k).foldl accB 0 = x at *
    unfold accB
    have : x * 2 % 256 ≤ x * 2 := Nat.mod_le _ _
    split <;> omega
theorem acc_dbl (l : List UInt8) (h : l.length = 8) (k : Nat) (hk : k < 8) : (l.take (k + 1)).foldl accB 0 = (l.take k).foldl accB 0 * 2 + if l[k]'(by omega) = 49 then 1 else 0 := by
  have ih := acc_pow l h k (by omega)
  have hp : 2 ^ k ≤ 2 ^ 7 := Nat.pow_le_pow_right (by decide) (by omega)
  have h7 : 2 ^ 7 = 128 := by decide
  rw [acc_snoc l k (by omega)]
  generalize (l.take k).foldl accB 0 = x at *
  unfold accB
  rw [Nat.mod_eq_of_lt (by omega)]

end Go.Proofs.YtlkiaeelnbjchaaDoor
