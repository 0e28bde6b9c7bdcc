/- The contracts of crc32.product, crc32.Combine and of the reference's functions: the same functions of Crc. -/
import Derived.Test.YtcidjflgmhhkbaaCrcWalk
namespace Go.Proofs.Ytcidjflgmhhkbaa
open Go.RowKit

theorem bit_test (b : BitVec 32) (k : Nat) : (bits .and .u32 ((b.toNat : Int) / 2 ^ k) 1 == 1) = b.getLsbD k := by
  have hd : (b.toNat : Int) / 2 ^ k = ((b.toNat / 2 ^ k : Nat) : Int) := by norm_cast
  have hlt : b.toNat / 2 ^ k < 2 ^ 32 := Nat.lt_of_le_of_lt (Nat.div_le_self _ _) b.isLt
  have h := (bits_nat .u32 32 (by decide) (fun n h0 h1 => by rw [IntKind.wrap_u32]; omega) (b.toNat / 2 ^ k) 1 hlt (by decide)).1
  rw [hd]
  rw [show ((1 : Nat) : Int) = 1 from rfl] at h
  rw [h, BitVec.getLsbD, Nat.testBit]
  rw [Nat.and_comm, Nat.shiftRight_eq_div_pow]
  have h2 : 1 &&& b.toNat / 2 ^ k = b.toNat / 2 ^ k % 2 := by rw [Nat.and_comm]; exact Nat.and_one_is_mod _
  rw [h2]
  rcases Nat.mod_two_eq_zero_or_one (b.toNat / 2 ^ k) with h3 | h3 <;> rw [h3] <;> rfl

theorem product_any (a b : BitVec 32) (w : World) :
    Calls Try.prog 23 #[.int .u32 (a.toNat : Int), .int .u32 (b.toNat : Int)] w fun e w' => e = .returned (.int .u32 ((Crc.prod a b).toNat : Int)) ∧ w = w' := by
  go_enter Try.func23, Try.ntmps23
  go_wp2_with fail
  go_loop [5, 6] (fun o i => ∃ m : Nat, m ≤ 32 ∧ i = .int .i64 (31 - (m : Int)) ∧ o = .int .u32 ((Crc.prodTo a b m).toNat : Int)) (fun _ i => (intOf i + 1).toNat)
  case atStart => exact ⟨0, by omega, rfl, rfl⟩
  case round =>
    obtain ⟨m, hm, rfl, rfl⟩ := hrel
    by_cases hlt : m < 32
    · have hfin : Hid (Crc.prodTo a b (m + 1) = if b.getLsbD (31 - m) then Crc.dbl (Crc.prodTo a b m) ^^^ a else Crc.dbl (Crc.prodTo a b m)) := rfl
      have hbt := bit_test b (31 - m)
      generalize Crc.prodTo a b m = r at hfin ⊢
      by_cases hb : b.getLsbD (31 - m) = true
      · rw [hb] at hbt
        replace hfin : Hid (Crc.prodTo a b (m + 1) = Crc.dbl r ^^^ a) := by rw [hb] at hfin; exact hfin
        clear hb
        go_wp2_with (go_at_call 21; refine (double_any _ _).mono ?_; rintro e w' ⟨rfl, rfl⟩)
        go_round
        case rel => exact ⟨m + 1, by omega, by congr 1; omega, by rw [hfin.out, bits_xor32]⟩
        case measure => simp [intOf]; omega
      · have hb' : b.getLsbD (31 - m) = false := by simpa using hb
        rw [hb'] at hbt
        replace hfin : Hid (Crc.prodTo a b (m + 1) = Crc.dbl r) := by rw [hb'] at hfin; exact hfin
        clear hb hb'
        go_wp2_with (go_at_call 21; refine (double_any _ _).mono ?_; rintro e w' ⟨rfl, rfl⟩)
        go_round
        case rel => exact ⟨m + 1, by omega, by congr 1; omega, by rw [hfin.out]⟩
        case measure => simp [intOf]; omega
    · obtain rfl : m = 32 := by omega
      go_wp2_with fail
      go_ret
      exact ⟨rfl, rfl⟩

theorem dbl_yes' (x : BitVec 32) (h : 2147483648 ≤ (x.toNat : Int)) : bits .xor .u32 ((x.toNat : Int) * 2 % 4294967296) 79764919 = ((Crc.dbl x).toNat : Int) :=
  dbl_yes x (by have := x.isLt; simp; omega)
theorem dbl_no' (x : BitVec 32) (h : ¬ 2147483648 ≤ (x.toNat : Int)) : (x.toNat : Int) * 2 % 4294967296 = ((Crc.dbl x).toNat : Int) :=
  dbl_no x (by have := x.isLt; simp; omega)

theorem step_any (x : BitVec 32) (w : World) :
    Calls Try.prog 22 #[.int .u32 (x.toNat : Int)] w fun e w' => e = .returned (.int .u32 ((Crc.dbl x).toNat : Int)) ∧ w = w' := by
  by_cases h : 2147483648 ≤ (x.toNat : Int)
  · go_enter Try.func22, Try.ntmps22
    go_wp2
    go_ret
    exact ⟨ret_int (dbl_yes' x h), rfl⟩
  · go_enter Try.func22, Try.ntmps22
    go_wp2
    go_ret
    exact ⟨ret_int (by have h2 := dbl_no' x (by omega); omega), rfl⟩

theorem times_any (a b : BitVec 32) (w : World) :
    Calls Try.prog 24 #[.int .u32 (a.toNat : Int), .int .u32 (b.toNat : Int)] w fun e w' => e = .returned (.int .u32 ((Crc.prod a b).toNat : Int)) ∧ w = w' := by
  go_enter Try.func24, Try.ntmps24
  go_wp2_with fail
  go_loop [5, 6] (fun o i => ∃ m : Nat, m ≤ 32 ∧ i = .int .i64 (31 - (m : Int)) ∧ o = .int .u32 ((Crc.prodTo a b m).toNat : Int)) (fun _ i => (intOf i + 1).toNat)
  case atStart => exact ⟨0, by omega, rfl, rfl⟩
  case round =>
    obtain ⟨m, hm, rfl, rfl⟩ := hrel
    by_cases hlt : m < 32
    · have hfin : Hid (Crc.prodTo a b (m + 1) = if b.getLsbD (31 - m) then Crc.dbl (Crc.prodTo a b m) ^^^ a else Crc.dbl (Crc.prodTo a b m)) := rfl
      have hbt := bit_test b (31 - m)
      generalize Crc.prodTo a b m = r at hfin ⊢
      by_cases hb : b.getLsbD (31 - m) = true
      · rw [hb] at hbt
        replace hfin : Hid (Crc.prodTo a b (m + 1) = Crc.dbl r ^^^ a) := by rw [hb] at hfin; exact hfin
        clear hb
        go_wp2_with (go_at_call 22; refine (step_any _ _).mono ?_; rintro e w' ⟨rfl, rfl⟩)
        go_round
        case rel => exact ⟨m + 1, by omega, by congr 1; omega, by rw [hfin.out, bits_xor32]⟩
        case measure => simp [intOf]; omega
      · have hb' : b.getLsbD (31 - m) = false := by simpa using hb
        rw [hb'] at hbt
        replace hfin : Hid (Crc.prodTo a b (m + 1) = Crc.dbl r) := by rw [hb'] at hfin; exact hfin
        clear hb hb'
        go_wp2_with (go_at_call 22; refine (step_any _ _).mono ?_; rintro e w' ⟨rfl, rfl⟩)
        go_round
        case rel => exact ⟨m + 1, by omega, by congr 1; omega, by rw [hfin.out]⟩
        case measure => simp [intOf]; omega
    · obtain rfl : m = 32 := by omega
      go_wp2_with fail
      go_ret
      exact ⟨rfl, rfl⟩

set_option maxHeartbeats 400000 in
theorem rupdate_any (x : BitVec 32) (s : ByteArray) (w : World) (hs : s.size ≤ maxLen) :
    Calls Try.prog 13 #[.int .u32 (x.toNat : Int), .string s] w fun e w' => e = .returned (.int .u32 ((Crc.upd x s.data.toList).toNat : Int)) ∧ w = w' := by
  unfold maxLen at hs
  go_enter Try.func13, Try.ntmps13
  go_wp2_with fail
  go_loop [0, 5] (fun c i => ∃ k : Nat, k ≤ s.size ∧ i = .int .i64 k ∧ c = .int .u32 ((Crc.upd x (s.data.toList.take k)).toNat : Int)) (fun _ i => s.size - (intOf i).toNat)
  case atStart => exact ⟨0, Nat.zero_le _, rfl, rfl⟩
  case round =>
    obtain ⟨k, hk, rfl, rfl⟩ := hrel
    by_cases hlt : k < s.size
    · have hfin : Hid (Crc.upd x (s.data.toList.take (k + 1)) = Crc.dbls 8 (Crc.upd x (s.data.toList.take k) ^^^ (BitVec.ofNat 32 s[k].toNat <<< 24))) := by
        show _ = _
        rw [take_snoc s k hlt, Crc.upd_snoc]; rfl
      have h24 : Hid (bits .xor .u32 ((Crc.upd x (s.data.toList.take k)).toNat : Int) ((s[k].toNat : Int) % 4294967296 * 16777216 % 4294967296) = ((Crc.upd x (s.data.toList.take k) ^^^ (BitVec.ofNat 32 s[k].toNat <<< 24)).toNat : Int)) := byte24 _ _
      go_wp2_with fail
      rw [h24.out]
      generalize Crc.upd x (s.data.toList.take k) = r at hfin ⊢
      clear h24
      generalize r ^^^ (BitVec.ofNat 32 s[k].toNat <<< 24) = z at hfin ⊢
      go_loop [0, 6] (fun c j => ∃ m : Nat, m ≤ 8 ∧ j = .int .i64 m ∧ c = .int .u32 ((Crc.dbls m z).toNat : Int)) (fun _ j => 8 - (intOf j).toNat)
      case atStart => exact ⟨0, Nat.zero_le _, rfl, rfl⟩
      case round =>
        obtain ⟨m, hm, rfl, rfl⟩ := hrel
        by_cases hm8 : m < 8
        · go_wp2_with (go_at_call 22; refine (step_any _ _).mono ?_; rintro e w' ⟨rfl, rfl⟩)
          go_round
          case rel => exact ⟨m + 1, by omega, by go_num, by rw [Crc.dbls_succ]⟩
          case measure => simp [intOf]; omega
        · obtain rfl : m = 8 := by omega
          go_wp2_with fail
          go_round
          case rel => exact ⟨k + 1, by omega, by go_num, by rw [hfin.out]⟩
          case measure => simp [intOf]; omega
    · go_wp2_with fail
      go_ret
      exact ⟨ret_int (by rw [List.take_of_length_le (by simp; omega)]), rfl⟩

theorem rsum_any (ss : List ByteArray) (b off cap : Nat) (w : World) (hl : ss.length ≤ maxLen) (hs : ∀ i, i < ss.length → (ss.getD i ByteArray.empty).size ≤ maxLen)
    (hc : ∀ i, i < ss.length → w.cell? ⟨b, off + i, none⟩ = some (.string (ss.getD i ByteArray.empty))) :
    Calls Try.prog 15 #[.slice (some ⟨b, off, none⟩) ss.length cap] w fun e w' => e = .returned (.int .u32 ((Crc.upd Crc.ini (bytesAll ss)).toNat : Int)) ∧ w = w' := by
  unfold maxLen at hl
  have HS := Lib.hid hs
  have HC := Lib.hid hc
  clear hs hc
  go_enter Try.func15, Try.ntmps15
  go_wp2_with fail
  go_loop [3, 4] (fun c i => ∃ k : Nat, k ≤ ss.length ∧ i = .int .i64 k ∧ c = .int .u32 ((Crc.upd Crc.ini (bytesAll (ss.take k))).toNat : Int)) (fun _ i => ss.length - (intOf i).toNat)
  case atStart => exact ⟨0, Nat.zero_le _, rfl, rfl⟩
  case round =>
    obtain ⟨k, hk, rfl, rfl⟩ := hrel
    by_cases hlt : k < ss.length
    · have hcell := HC.out k hlt
      have hsz := HS.out k hlt
      have hfin : Hid (Crc.upd Crc.ini (bytesAll (ss.take (k + 1))) = Crc.upd (Crc.upd Crc.ini (bytesAll (ss.take k))) (ss.getD k ByteArray.empty).data.toList) := by
        show _ = _
        rw [bytesAll_take ss k hlt, Crc.upd_append]
      generalize ss.getD k ByteArray.empty = s at hcell hsz hfin
      generalize Crc.upd Crc.ini (bytesAll (ss.take k)) = r at hfin ⊢
      go_wp2_with (go_at_call 13; refine (rupdate_any _ _ _ hsz).mono ?_; rintro e w' ⟨rfl, rfl⟩)
      go_round
      case rel => exact ⟨k + 1, by omega, by go_num, by rw [hfin.out]⟩
      case measure => simp [intOf]; omega
    · go_wp2_with fail
      go_ret
      exact ⟨ret_int (by rw [List.take_of_length_le (by omega)]), rfl⟩

theorem rbytes_any (x : BitVec 32) (w : World) :
    Calls Try.prog 17 #[.int .u32 (x.toNat : Int)] w fun e w' => e = .returned (.string ⟨(Crc.bytesOf x).toArray⟩) ∧ Below w.heap.size w w' := by
  have hcv := run_convert_bytes_arg (P := Try.prog) (w.alloc (.cells #[.int .u8 ((x.toNat : Int) / 16777216), .int .u8 ((x.toNat : Int) / 65536 % 256), .int .u8 ((x.toNat : Int) / 256 % 256), .int .u8 ((x.toNat : Int) % 256)] 5))
    35 5 Try.underlying35 Try.underlying5 w.heap.size 0 4 4 [(x.toNat : Int) / 16777216, (x.toNat : Int) / 65536 % 256, (x.toNat : Int) / 256 % 256, (x.toNat : Int) % 256] rfl
    (by
      intro i hi
      match i, hi with
      | 0, _ => go_cell
      | 1, _ => go_cell
      | 2, _ => go_cell
      | 3, _ => go_cell) 9 Try.underlying9
  rw [bytes_str] at hcv
  generalize hz : (⟨(Crc.bytesOf x).toArray⟩ : ByteArray) = z at hcv ⊢
  clear hz
  go_enter Try.func17, Try.ntmps17
  go_wp2_with fail
  go_ret
  exact ⟨rfl, by go_grown⟩
end Go.Proofs.Ytcidjflgmhhkbaa
