/- Contracts of the reference: Input, Great. (Layer 27) -/
import Derived.Test.YtlkiaeelnbjchaaDoorLdInput
namespace Go.Proofs.YtlkiaeelnbjchaaDoor
open Go.RowKit
open Go.Lib hiding intOf
set_option linter.unusedVariables false

/-- the size of pieces, as the laws count it -/
def totR (rows : List ByteArray) : Nat := (rows.map fun s => 1 + s.size).sum
theorem totR_succ (rows : List ByteArray) (k : Nat) (h : k < rows.length) : totR (rows.take (k + 1)) = totR (rows.take k) + (1 + rows[k].size) := by
  unfold totR
  rw [List.take_succ_eq_append_getElem h, List.map_append, List.sum_append]
  simp
theorem great_any (A : Option Addr) (n cap : Nat) (rows : List ByteArray) (w : World) (hl : Lst w A n cap (rows.map Value.string)) (hz : ∀ s ∈ rows, s.size ≤ maxLen) :
    Calls Tryd.prog 4 #[.slice A n cap] w fun e w' => ∃ z : Int, e = .returned (.int .i64 z) ∧ (z = 1 ∨ z = 0 ∧ totR rows ≤ 8000) ∧ w = w' := by
  have hlen : n = rows.length := by rw [hl.len, List.length_map]
  have hroom := hl.room
  have hmax := hl.max
  unfold maxLen at hmax
  have HLN := Lib.hid hlen
  have HZ := Lib.hid hz
  clear hlen hz
  go_enter Tryd.func4, Tryd.ntmps4
  go_wp2_with fail
  go_loop [3, 4] (fun nv kv => ∃ k m : Nat, kv = .int .i64 k ∧ k ≤ n ∧ nv = .int .i64 m ∧ m ≤ 8000 ∧ Hid (m = totR (rows.take k))) (fun _ kv => n - (intOf kv).toNat)
  case atStart => exact ⟨0, 0, rfl, Nat.zero_le _, rfl, Nat.zero_le _, rfl⟩
  case round =>
    obtain ⟨k, m, rfl, hk, rfl, hm, HM⟩ := hrel
    by_cases hlt : k < n
    · obtain ⟨rb, off, rfl, hcl⟩ := hl.at_ (by omega)
      have hkl : k < rows.length := by have := HLN.out; omega
      obtain ⟨s, hs⟩ : ∃ s, s = rows[k] := ⟨_, rfl⟩
      have hc : w.cell? ⟨rb, off + k, none⟩ = some (.string s) := by
        have := hcl k (by rw [List.length_map]; exact hkl)
        rw [List.getElem_map, ← hs] at this
        exact this
      have hsz1 := HZ.out s (by rw [hs]; exact List.getElem_mem _)
      unfold maxLen at hsz1
      have hsu := totR_succ rows k hkl
      rw [← hs, ← HM.out] at hsu
      have HSU := Lib.hid hsu
      clear hcl hs hsu
      by_cases h5 : s.size ≤ 5000
      · by_cases h8 : m + 1 + s.size ≤ 8000
        · have h8' : (m : Int) + 1 + s.size ≤ 8000 := by omega
          go_wp2_with fail
          go_round
          case rel => exact ⟨k + 1, m + 1 + s.size, by go_num, by omega, by go_num, by omega, by show _ = _; rw [HSU.out]; omega⟩
          case measure => simp [intOf]; omega
        · have h8' : 8000 < (m : Int) + 1 + s.size := by omega
          go_wp2_with fail
          go_ret
          exact ⟨1, rfl, .inl rfl, rfl⟩
      · have h5' : 5000 < (s.size : Int) := by omega
        go_wp2_with fail
        go_ret
        exact ⟨1, rfl, .inl rfl, rfl⟩
    · obtain rfl : k = n := by omega
      have hfin : totR rows ≤ 8000 := by
        have := HM.out
        rw [List.take_of_length_le (by rw [HLN.out]; exact Nat.le_refl _)] at this
        omega
      go_wp2_with fail
      go_ret
      refine ⟨0, rfl, ?_, rfl⟩
      first | exact Or.inr rfl | exact Or.inr (And.intro rfl hfin)
end Go.Proofs.YtlkiaeelnbjchaaDoor
