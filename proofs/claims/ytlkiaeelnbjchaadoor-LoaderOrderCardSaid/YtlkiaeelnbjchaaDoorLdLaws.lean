/- The laws LoaderInputs and LoaderFinds return true. (Layer 27) -/
import Derived.Test.YtlkiaeelnbjchaaDoorLdAwake
import Derived.Test.YtlkiaeelnbjchaaDoorLdRef2
import Derived.BigQuiet
namespace Go.Proofs.YtlkiaeelnbjchaaDoor
open Go.RowKit
open Go.Lib hiding intOf
set_option linter.unusedVariables false

theorem tot_mem : ∀ {rows : List ByteArray} {s : ByteArray}, s ∈ rows → s.size + 1 ≤ totR rows
  | x :: rows, s, h => by
    have e : totR (x :: rows) = (1 + x.size) + totR rows := by simp [totR]
    rw [e]
    rcases List.mem_cons.1 h with rfl | h
    · omega
    · have := tot_mem h; omega
theorem inputP_len (s : ByteArray) : (inputP s).length ≤ 1 + s.size := by
  unfold inputP
  split
  · exact Nat.zero_le _
  · rw [List.length_append, List.length_map]
    show s.size + 1 ≤ _
    omega
theorem inputL_len (rows : List ByteArray) (arch : Nat) : (inputL rows arch).length ≤ 1 + totR rows := by
  unfold inputL
  rw [List.length_cons]
  induction rows with
  | nil => simp
  | cons x rows ih =>
    have e : totR (x :: rows) = (1 + x.size) + totR rows := by simp [totR]
    rw [List.flatMap_cons, List.length_append, e]
    have := inputP_len x
    omega
theorem framesTo_len (s : List UInt8) (arch n : Nat) : (framesTo s arch n).length ≤ n := by
  induction n with
  | zero => simp [framesTo]
  | succ n ih =>
    rw [framesTo_succ, List.length_append]
    have : (frameAt s arch n).length ≤ 1 := by
      unfold frameAt
      split
      · split <;> simp
      · simp
    omega
theorem framesL_len (rows : List ByteArray) (arch : Nat) : (framesL rows arch).length ≤ totR rows := by
  unfold framesL
  induction rows with
  | nil => simp
  | cons x rows ih =>
    have e : totR (x :: rows) = (1 + x.size) + totR rows := by simp [totR]
    rw [List.flatMap_cons, List.length_append, e]
    have : (framesP arch x).length ≤ x.size - 767 := framesTo_len _ _ _
    omega

end Go.Proofs.YtlkiaeelnbjchaaDoor
