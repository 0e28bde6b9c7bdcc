/- The plain law of six digits. -/
import Derived.Test.YtimegcnpembhkaaDoorAsmDef
import Derived.Lib.ItoaNum
import Derived.Lib.ItoaMem
namespace Go.Proofs.YtimegcnpembhkaaDoor
open Go.Lib

/-- k decimal digits, the last ones -/
def digs : Nat → Nat → Bytes
  | 0, _ => []
  | k + 1, u => digs k (u / 10) ++ [UInt8.ofNat (48 + u % 10)]
theorem digs_length (k u : Nat) : (digs k u).length = k := by
  induction k generalizing u with
  | zero => rfl
  | succ k ih => simp [digs, ih]
theorem digs_zero (k : Nat) : digs k 0 = List.replicate k 48 := by
  induction k with
  | zero => rfl
  | succ k ih => rw [digs, show 0 / 10 = 0 from rfl, ih, List.replicate_succ']; rfl
theorem isDig_of (m : Nat) (h : m < 10) : isDig (UInt8.ofNat (48 + m)) = true := by
  have : ∀ m : Fin 10, isDig (UInt8.ofNat (48 + m.val)) = true := by decide +kernel
  exact this ⟨m, h⟩
theorem digs_dig (k u : Nat) : ∀ c ∈ digs k u, isDig c = true := by
  induction k generalizing u with
  | zero => intro c hc; cases hc
  | succ k ih =>
    intro c hc
    rw [digs, List.mem_append] at hc
    rcases hc with h | h
    · exact ih _ c h
    · obtain rfl : c = UInt8.ofNat (48 + u % 10) := by simpa using h
      exact isDig_of _ (Nat.mod_lt _ (by decide))
theorem decDigits_pos (u : Nat) : 1 ≤ (decDigits u).length := by
  rw [decDigits]
  split
  · simp
  · simp
theorem tail_snoc (l : Bytes) (d : UInt8) (k : Nat) (h : k ≤ l.length) : (l ++ [d]).drop ((l ++ [d]).length - (k + 1)) = l.drop (l.length - k) ++ [d] := by
  rw [List.length_append, List.length_singleton, show l.length + 1 - (k + 1) = l.length - k by omega, List.drop_append_of_le_length (by omega)]
theorem drop_cons_last (x : UInt8) (X : Bytes) (k : Nat) (h : k ≤ X.length) : (x :: X).drop ((x :: X).length - k) = X.drop (X.length - k) := by
  rw [List.length_cons, show X.length + 1 - k = (X.length - k) + 1 by omega, List.drop_succ_cons]
theorem last_digs : ∀ (k u : Nat), (List.replicate k 48 ++ decDigits u).drop ((List.replicate k 48 ++ decDigits u).length - (k + 1)) = digs (k + 1) u := by
  intro k
  induction k with
  | zero =>
    intro u
    simp only [List.replicate_zero, List.nil_append, digs]
    rw [decDigits]
    split
    · rename_i h
      simp [Nat.mod_eq_of_lt h]
    · rw [tail_snoc _ _ 0 (Nat.zero_le _)]
      simp
  | succ k ih =>
    intro u
    rw [decDigits]
    split
    · rename_i h
      rw [digs, show u / 10 = 0 by omega, digs_zero, Nat.mod_eq_of_lt h]
      simp
    · rename_i h
      have hp := decDigits_pos (u / 10)
      rw [← List.append_assoc, tail_snoc _ _ (k + 1) (by simp), digs, ← ih]
      congr 1
      rw [List.replicate_succ, List.cons_append]
      exact drop_cons_last _ _ _ (by rw [List.length_append, List.length_replicate]; omega)

/-- an address of six digits, as the assembler makes it -/
def sixRaw (n : Int) : Bytes := ([48, 48, 48, 48, 48] ++ itoa n).drop (([48, 48, 48, 48, 48] ++ itoa n).length - 6)
theorem sixRaw_digs (n : Nat) : sixRaw n = digs 6 n := by
  unfold sixRaw
  rw [itoa_nonneg]
  exact last_digs 5 n
def sixA (n : Int) : Bytes := digs 6 n.toNat
theorem sixA_digs (n : Nat) : sixA n = digs 6 n := by simp [sixA]
theorem sixRaw_sixA (n : Int) (h : 0 ≤ n) : sixRaw n = sixA n := by
  obtain ⟨m, rfl⟩ := Int.eq_ofNat_of_zero_le h
  rw [sixRaw_digs, sixA_digs]
theorem itoa_pos (n : Int) : 1 ≤ (itoa n).length := by
  unfold itoa
  split
  · simp
  · exact decDigits_pos _
end Go.Proofs.YtimegcnpembhkaaDoor
