/- The contracts of the package crc32: each function returns what Crc's functions say and changes nothing. -/
import Derived.Test.YtjmglbppmolipaaGreatDoorCrcMath
import Derived.Test.YtjmglbppmolipaaGreatDoorMem
import Derived.Test.YtjmglbppmolipaaGreatDoorProg
import Derived.WalkKit
import Derived.Handy
import Derived.Lib.Hide
import Derived.Laws.BytesArg
namespace Go.Proofs.YtjmglbppmolipaaGreatDoor
open Go.RowKit


theorem bits_xor32 (a b : BitVec 32) : bits .xor .u32 (a.toNat : Int) (b.toNat : Int) = ((a ^^^ b).toNat : Int) := by
  have h : bits .xor .u32 (a.toNat : Int) (b.toNat : Int) = IntKind.u32.wrap ((BitVec.ofInt 32 (a.toNat : Int) ^^^ BitVec.ofInt 32 (b.toNat : Int)).toNat : Int) := rfl
  rw [h, BitVec.ofInt_natCast, BitVec.ofInt_natCast, BitVec.ofNat_toNat, BitVec.ofNat_toNat, BitVec.setWidth_eq, BitVec.setWidth_eq, IntKind.wrap_u32]
  have := (a ^^^ b).isLt
  omega

theorem shl32 (x : BitVec 32) (k : Nat) : (x.toNat : Int) * 2 ^ k % 4294967296 = ((x <<< k).toNat : Int) := by
  rw [BitVec.toNat_shiftLeft, Nat.shiftLeft_eq]
  simp

theorem dbl_yes (x : BitVec 32) (h : ((x.toNat : Int) / 2147483648 == 1) = true) : bits .xor .u32 ((x.toNat : Int) * 2 % 4294967296) 79764919 = ((Crc.dbl x).toNat : Int) := by
  have hb : x.getLsbD 31 = true := by
    rw [BitVec.getLsbD, Nat.testBit]
    simp [Nat.shiftRight_eq_div_pow]
    have := x.isLt
    simp at h
    omega
  have h2 := shl32 x 1
  rw [show (2 : Int) ^ 1 = 2 from rfl] at h2
  rw [h2, show (79764919 : Int) = ((0x04c11db7#32).toNat : Int) from rfl, bits_xor32, Crc.dbl, if_pos hb]

theorem dbl_no (x : BitVec 32) (h : ((x.toNat : Int) / 2147483648 == 1) = false) : (x.toNat : Int) * 2 % 4294967296 = ((Crc.dbl x).toNat : Int) := by
  have hb : x.getLsbD 31 = false := by
    rw [BitVec.getLsbD, Nat.testBit]
    simp [Nat.shiftRight_eq_div_pow]
    have := x.isLt
    simp at h
    omega
  have h2 := shl32 x 1
  rw [show (2 : Int) ^ 1 = 2 from rfl] at h2
  rw [h2, Crc.dbl, if_neg (by rw [hb]; decide)]

theorem double_any (x : BitVec 32) (w : World) :
    Calls Tryz.prog 131 #[.int .u32 (x.toNat : Int)] w fun e w' => e = .returned (.int .u32 ((Crc.dbl x).toNat : Int)) ∧ w = w' := by
  go_enter Tryz.func131, Tryz.ntmps131
  go_wp2
  · go_ret
    exact ⟨ret_int (dbl_yes x ‹_›), rfl⟩
  · go_ret
    exact ⟨ret_int (dbl_no x ‹_›), rfl⟩

theorem byte24 (r : BitVec 32) (b : UInt8) : bits .xor .u32 (r.toNat : Int) ((b.toNat : Int) % 4294967296 * 16777216 % 4294967296) = ((r ^^^ (BitVec.ofNat 32 b.toNat <<< 24)).toNat : Int) := by
  have h := shl32 (BitVec.ofNat 32 b.toNat) 24
  have hb := b.toNat_lt
  rw [show (2 : Int) ^ 24 = 16777216 from rfl, BitVec.toNat_ofNat, Nat.mod_eq_of_lt (by omega : b.toNat < 2 ^ 32)] at h
  rw [show (b.toNat : Int) % 4294967296 = b.toNat by omega, h, bits_xor32]

theorem take_snoc (s : ByteArray) (k : Nat) (h : k < s.size) : s.data.toList.take (k + 1) = s.data.toList.take k ++ [s[k]] := by
  rw [List.take_succ_eq_append_getElem (by simpa using h)]; rfl

set_option maxHeartbeats 400000 in
theorem update_any (x : BitVec 32) (s : ByteArray) (w : World) (hs : s.size ≤ maxLen) :
    Calls Tryz.prog 109 #[.int .u32 (x.toNat : Int), .string s] w fun e w' => e = .returned (.int .u32 ((Crc.upd x s.data.toList).toNat : Int)) ∧ w = w' := by
  unfold maxLen at hs
  go_enter Tryz.func109, Tryz.ntmps109
  go_wp2_with fail
  go_loop [0, 8] (fun c i => ∃ k : Nat, k ≤ s.size ∧ i = .int .i64 k ∧ c = .int .u32 ((Crc.upd x (s.data.toList.take k)).toNat : Int)) (fun _ i => s.size - (intOf i).toNat)
  case atStart => exact ⟨0, Nat.zero_le _, rfl, rfl⟩
  case round =>
    obtain ⟨k, hk, rfl, rfl⟩ := hrel
    by_cases hlt : k < s.size
    · have hfin : Hid (Crc.upd x (s.data.toList.take (k + 1)) = Crc.dbls 8 (Crc.upd x (s.data.toList.take k) ^^^ (BitVec.ofNat 32 s[k].toNat <<< 24))) := by
        show _ = _
        rw [take_snoc s k hlt, Crc.upd_snoc]; rfl
      have h24 : Hid (bits .xor .u32 ((Crc.upd x (s.data.toList.take k)).toNat : Int) ((s[k].toNat : Int) % 4294967296 * 16777216 % 4294967296) = ((Crc.upd x (s.data.toList.take k) ^^^ (BitVec.ofNat 32 s[k].toNat <<< 24)).toNat : Int)) := byte24 _ _
      go_wp2_with fail
      rw [h24.out]
      generalize Crc.upd x (s.data.toList.take k) = r at hfin ⊢
      clear h24
      generalize r ^^^ (BitVec.ofNat 32 s[k].toNat <<< 24) = z at hfin ⊢
      go_loop [0, 18] (fun c j => ∃ m : Nat, m ≤ 8 ∧ j = .int .i64 m ∧ c = .int .u32 ((Crc.dbls m z).toNat : Int)) (fun _ j => 8 - (intOf j).toNat)
      case atStart => exact ⟨0, Nat.zero_le _, rfl, rfl⟩
      case round =>
        obtain ⟨m, hm, rfl, rfl⟩ := hrel
        by_cases hm8 : m < 8
        · go_wp2_with (go_at_call 131; refine (double_any _ _).mono ?_; rintro e w' ⟨rfl, rfl⟩)
          go_round
          case rel => exact ⟨m + 1, by omega, by go_num, by rw [Crc.dbls_succ]⟩
          case measure => simp [intOf]; omega
        · obtain rfl : m = 8 := by omega
          go_wp2_with fail
          go_round
          case rel => exact ⟨k + 1, by omega, by go_num, by rw [hfin.out]⟩
          case measure => simp [intOf]; omega
    · go_wp2_with fail
      go_ret
      exact ⟨ret_int (by rw [List.take_of_length_le (by simp; omega)]), rfl⟩

def bytesAll (ss : List ByteArray) : List UInt8 := ss.flatMap fun s => s.data.toList
theorem bytesAll_take (ss : List ByteArray) (k : Nat) (h : k < ss.length) : bytesAll (ss.take (k + 1)) = bytesAll (ss.take k) ++ (ss.getD k ByteArray.empty).data.toList := by
  unfold bytesAll
  rw [List.take_succ_eq_append_getElem h, List.flatMap_append]
  simp [List.getD_eq_getElem?_getD, List.getElem?_eq_getElem h]

theorem sum_nil (w : World) :
    Calls Tryz.prog 87 #[.slice none 0 0] w fun e w' => e = .returned (.int .u32 (Crc.ini.toNat : Int)) ∧ w = w' := by
  go_enter Tryz.func87, Tryz.ntmps87
  go_wp2_with fail
  go_loop [3, 8] (fun c i => i = .int .i64 0 ∧ c = .int .u32 (Crc.ini.toNat : Int)) (fun _ i => 0)
  case atStart => exact ⟨rfl, rfl⟩
  case round =>
    obtain ⟨rfl, rfl⟩ := hrel
    go_wp2_with fail
    go_ret
    exact ⟨rfl, rfl⟩

theorem sum_any (ss : List ByteArray) (b off cap : Nat) (w : World) (hl : ss.length ≤ maxLen) (hs : ∀ i, i < ss.length → (ss.getD i ByteArray.empty).size ≤ maxLen)
    (hc : ∀ i, i < ss.length → w.cell? ⟨b, off + i, none⟩ = some (.string (ss.getD i ByteArray.empty))) :
    Calls Tryz.prog 87 #[.slice (some ⟨b, off, none⟩) ss.length cap] w fun e w' => e = .returned (.int .u32 ((Crc.upd Crc.ini (bytesAll ss)).toNat : Int)) ∧ w = w' := by
  unfold maxLen at hl
  have HS := Lib.hid hs
  have HC := Lib.hid hc
  clear hs hc
  go_enter Tryz.func87, Tryz.ntmps87
  go_wp2_with fail
  go_loop [3, 8] (fun c i => ∃ k : Nat, k ≤ ss.length ∧ i = .int .i64 k ∧ c = .int .u32 ((Crc.upd Crc.ini (bytesAll (ss.take k))).toNat : Int)) (fun _ i => ss.length - (intOf i).toNat)
  case atStart => exact ⟨0, Nat.zero_le _, rfl, rfl⟩
  case round =>
    obtain ⟨k, hk, rfl, rfl⟩ := hrel
    by_cases hlt : k < ss.length
    · have hcell := HC.out k hlt
      have hsz := HS.out k hlt
      have hfin : Hid (Crc.upd Crc.ini (bytesAll (ss.take (k + 1))) = Crc.upd (Crc.upd Crc.ini (bytesAll (ss.take k))) (ss.getD k ByteArray.empty).data.toList) := by
        show _ = _
        rw [bytesAll_take ss k hlt, Crc.upd_append]
      generalize ss.getD k ByteArray.empty = s at hcell hsz hfin
      generalize Crc.upd Crc.ini (bytesAll (ss.take k)) = r at hfin ⊢
      go_wp2_with (go_at_call 109; refine (update_any _ _ _ hsz).mono ?_; rintro e w' ⟨rfl, rfl⟩)
      go_round
      case rel => exact ⟨k + 1, by omega, by go_num, by rw [hfin.out]⟩
      case measure => simp [intOf]; omega
    · go_wp2_with fail
      go_ret
      exact ⟨ret_int (by rw [List.take_of_length_le (by omega)]), rfl⟩
end Go.Proofs.YtjmglbppmolipaaGreatDoor
