/- The contracts of the reference's checksum: Update and Sum. -/
import Derived.Test.YtjmglbppmolipaaGreatDoorCrcSum
namespace Go.Proofs.YtjmglbppmolipaaGreatDoor
open Go.RowKit

theorem dbl_yes' (x : BitVec 32) (h : 2147483648 ≤ (x.toNat : Int)) : bits .xor .u32 ((x.toNat : Int) * 2 % 4294967296) 79764919 = ((Crc.dbl x).toNat : Int) :=
  dbl_yes x (by have := x.isLt; simp; omega)
theorem dbl_no' (x : BitVec 32) (h : ¬ 2147483648 ≤ (x.toNat : Int)) : (x.toNat : Int) * 2 % 4294967296 = ((Crc.dbl x).toNat : Int) :=
  dbl_no x (by have := x.isLt; simp; omega)

theorem step_any (x : BitVec 32) (w : World) :
    Calls Tryz.prog 147 #[.int .u32 (x.toNat : Int)] w fun e w' => e = .returned (.int .u32 ((Crc.dbl x).toNat : Int)) ∧ w = w' := by
  by_cases h : 2147483648 ≤ (x.toNat : Int)
  · go_enter Tryz.func147, Tryz.ntmps147
    go_wp2
    go_ret
    exact ⟨ret_int (dbl_yes' x h), rfl⟩
  · go_enter Tryz.func147, Tryz.ntmps147
    go_wp2
    go_ret
    exact ⟨ret_int (by have h2 := dbl_no' x (by omega); omega), rfl⟩

theorem rupdate_any (x : BitVec 32) (s : ByteArray) (w : World) (hs : s.size ≤ maxLen) :
    Calls Tryz.prog 132 #[.int .u32 (x.toNat : Int), .string s] w fun e w' => e = .returned (.int .u32 ((Crc.upd x s.data.toList).toNat : Int)) ∧ w = w' := by
  unfold maxLen at hs
  go_enter Tryz.func132, Tryz.ntmps132
  go_wp2_with fail
  go_loop [0, 5] (fun c i => ∃ k : Nat, k ≤ s.size ∧ i = .int .i64 k ∧ c = .int .u32 ((Crc.upd x (s.data.toList.take k)).toNat : Int)) (fun _ i => s.size - (intOf i).toNat)
  case atStart => exact ⟨0, Nat.zero_le _, rfl, rfl⟩
  case round =>
    obtain ⟨k, hk, rfl, rfl⟩ := hrel
    by_cases hlt : k < s.size
    · have hfin : Hid (Crc.upd x (s.data.toList.take (k + 1)) = Crc.dbls 8 (Crc.upd x (s.data.toList.take k) ^^^ (BitVec.ofNat 32 s[k].toNat <<< 24))) := by
        show _ = _
        rw [take_snoc s k hlt, Crc.upd_snoc]; rfl
      have h24 : Hid (bits .xor .u32 ((Crc.upd x (s.data.toList.take k)).toNat : Int) ((s[k].toNat : Int) % 4294967296 * 16777216 % 4294967296) = ((Crc.upd x (s.data.toList.take k) ^^^ (BitVec.ofNat 32 s[k].toNat <<< 24)).toNat : Int)) := byte24 _ _
      go_wp2_with fail
      rw [h24.out]
      generalize Crc.upd x (s.data.toList.take k) = r at hfin ⊢
      clear h24
      generalize r ^^^ (BitVec.ofNat 32 s[k].toNat <<< 24) = z at hfin ⊢
      go_loop [0, 6] (fun c j => ∃ m : Nat, m ≤ 8 ∧ j = .int .i64 m ∧ c = .int .u32 ((Crc.dbls m z).toNat : Int)) (fun _ j => 8 - (intOf j).toNat)
      case atStart => exact ⟨0, Nat.zero_le _, rfl, rfl⟩
      case round =>
        obtain ⟨m, hm, rfl, rfl⟩ := hrel
        by_cases hm8 : m < 8
        · go_wp2_with (go_at_call 147; refine (step_any _ _).mono ?_; rintro e w' ⟨rfl, rfl⟩)
          go_round
          case rel => exact ⟨m + 1, by omega, by go_num, by rw [Crc.dbls_succ]⟩
          case measure => simp [intOf]; omega
        · obtain rfl : m = 8 := by omega
          go_wp2_with fail
          go_round
          case rel => exact ⟨k + 1, by omega, by go_num, by rw [hfin.out]⟩
          case measure => simp [intOf]; omega
    · go_wp2_with fail
      go_ret
      exact ⟨ret_int (by rw [List.take_of_length_le (by simp; omega)]), rfl⟩

theorem rsum_any (ss : List ByteArray) (b off cap : Nat) (w : World) (hl : ss.length ≤ maxLen) (hs : ∀ i, i < ss.length → (ss.getD i ByteArray.empty).size ≤ maxLen)
    (hc : ∀ i, i < ss.length → w.cell? ⟨b, off + i, none⟩ = some (.string (ss.getD i ByteArray.empty))) :
    Calls Tryz.prog 110 #[.slice (some ⟨b, off, none⟩) ss.length cap] w fun e w' => e = .returned (.int .u32 ((Crc.upd Crc.ini (bytesAll ss)).toNat : Int)) ∧ w = w' := by
  unfold maxLen at hl
  have HS := Lib.hid hs
  have HC := Lib.hid hc
  clear hs hc
  go_enter Tryz.func110, Tryz.ntmps110
  go_wp2_with fail
  go_loop [3, 4] (fun c i => ∃ k : Nat, k ≤ ss.length ∧ i = .int .i64 k ∧ c = .int .u32 ((Crc.upd Crc.ini (bytesAll (ss.take k))).toNat : Int)) (fun _ i => ss.length - (intOf i).toNat)
  case atStart => exact ⟨0, Nat.zero_le _, rfl, rfl⟩
  case round =>
    obtain ⟨k, hk, rfl, rfl⟩ := hrel
    by_cases hlt : k < ss.length
    · have hcell := HC.out k hlt
      have hsz := HS.out k hlt
      have hfin : Hid (Crc.upd Crc.ini (bytesAll (ss.take (k + 1))) = Crc.upd (Crc.upd Crc.ini (bytesAll (ss.take k))) (ss.getD k ByteArray.empty).data.toList) := by
        show _ = _
        rw [bytesAll_take ss k hlt, Crc.upd_append]
      generalize ss.getD k ByteArray.empty = s at hcell hsz hfin
      generalize Crc.upd Crc.ini (bytesAll (ss.take k)) = r at hfin ⊢
      go_wp2_with (go_at_call 132; refine (rupdate_any _ _ _ hsz).mono ?_; rintro e w' ⟨rfl, rfl⟩)
      go_round
      case rel => exact ⟨k + 1, by omega, by go_num, by rw [hfin.out]⟩
      case measure => simp [intOf]; omega
    · go_wp2_with fail
      go_ret
      exact ⟨ret_int (by rw [List.take_of_length_le (by omega)]), rfl⟩
end Go.Proofs.YtjmglbppmolipaaGreatDoor
