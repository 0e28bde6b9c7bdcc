/- The contracts of crc32.Combine and of the reference's Combine: Crc.comb where the length is not negative, else 0. -/
import Derived.Test.YtcidjflgmhhkbaaCrcRef
namespace Go.Proofs.Ytcidjflgmhhkbaa
open Go.RowKit

theorem and1_i64 (l : Nat) (h : l ≤ 9223372036854775807) : bits .and .i64 (l : Int) 1 = ((l % 2 : Nat) : Int) := by
  have h1 := (bits_nat .i64 63 (by decide) (fun n h0 h1 => by rw [IntKind.wrap_i64]; omega) l 1 (by omega) (by decide)).1
  rw [show ((1 : Nat) : Int) = 1 from rfl] at h1
  rw [h1, show l &&& 1 = l % 2 from Nat.and_one_is_mod _]

theorem comb_step (s l p n : Nat) (h : s + l * p = n) : (if l % 2 = 1 then s + p else s) + l / 2 * (p + p) = n := by
  have h2 : l = l % 2 + 2 * (l / 2) := by omega
  have h3 : l * p = (l % 2) * p + l / 2 * (p + p) := by
    conv => lhs; rw [h2]
    rw [Nat.add_mul, Nat.mul_add (l / 2)]
    have : 2 * (l / 2) * p = l / 2 * p + l / 2 * p := by rw [Nat.mul_assoc, Nat.two_mul]
    omega
  rcases Nat.mod_two_eq_zero_or_one l with h4 | h4
  · rw [h4] at h3 ⊢
    simp at h3 ⊢
    omega
  · rw [h4] at h3 ⊢
    simp at h3 ⊢
    omega

theorem combine_neg (a b : BitVec 32) (n : Int) (w : World) (hn : n < 0) :
    Calls Try.prog 19 #[.int .u32 (a.toNat : Int), .int .u32 (b.toNat : Int), .int .i64 n] w fun e w' => e = .returned (.int .u32 0) ∧ w = w' := by
  go_enter Try.func19, Try.ntmps19
  go_wp2_with fail
  go_ret
  exact ⟨rfl, rfl⟩

theorem xor_ini (a : BitVec 32) : bits .xor .u32 (a.toNat : Int) 4294967295 = ((a ^^^ Crc.ini).toNat : Int) := bits_xor32 a Crc.ini

theorem comb_end (a b : BitVec 32) (s p n : Nat) (h : s + 0 * p = n) : bits .xor .u32 (b.toNat : Int) ((Crc.prod (a ^^^ Crc.ini) (Crc.pw (8 * s))).toNat : Int) = ((Crc.comb a b n).toNat : Int) := by
  rw [bits_xor32, Crc.prod_pw, Crc.comb, show s = n by omega]

theorem rcomb_end (a b : BitVec 32) (s p n : Nat) (h : s + 0 * p = n) : bits .xor .u32 (b.toNat : Int) ((Crc.dbls (8 * s) (a ^^^ Crc.ini)).toNat : Int) = ((Crc.comb a b n).toNat : Int) := by
  rw [bits_xor32, Crc.comb, show s = n by omega]

theorem rcombine_neg (a b : BitVec 32) (n : Int) (w : World) (hn : n < 0) :
    Calls Try.prog 20 #[.int .u32 (a.toNat : Int), .int .u32 (b.toNat : Int), .int .i64 n] w fun e w' => e = .returned (.int .u32 0) ∧ w = w' := by
  go_enter Try.func20, Try.ntmps20
  go_wp2_with fail
  go_ret
  exact ⟨rfl, rfl⟩

theorem combine_any (a b : BitVec 32) (n : Nat) (w : World) (hn : n ≤ 9223372036854775807) :
    Calls Try.prog 19 #[.int .u32 (a.toNat : Int), .int .u32 (b.toNat : Int), .int .i64 (n : Int)] w fun e w' => e = .returned (.int .u32 ((Crc.comb a b n).toNat : Int)) ∧ w = w' := by
  have hx : Hid (bits .xor .u32 (a.toNat : Int) 4294967295 = ((a ^^^ Crc.ini).toNat : Int)) := xor_ini a
  go_enter Try.func19, Try.ntmps19
  go_wp2_with fail
  go_loop [2, 7, 8] (fun t u v => ∃ l s p : Nat, l ≤ 9223372036854775807 ∧ s + l * p = n ∧ t = .int .i64 (l : Int) ∧ u = .int .u32 ((Crc.pw (8 * s)).toNat : Int) ∧ v = .int .u32 ((Crc.pw (8 * p)).toNat : Int)) (fun t _ _ => (intOf t).toNat)
  case atStart => exact ⟨n, 0, 1, by omega, by omega, rfl, rfl, by rw [Crc.pw_8]; rfl⟩
  case round =>
    obtain ⟨l, s, p, hl, hq, rfl, rfl, rfl⟩ := hrel
    have HQ := Lib.hid hq
    clear hq
    by_cases hlt : 0 < l
    · have hand := and1_i64 l hl
      have hp2 : Hid (Crc.prod (Crc.pw (8 * p)) (Crc.pw (8 * p)) = Crc.pw (8 * (p + p))) := by
        show _ = _
        rw [Crc.pw_mul]; congr 1; omega
      have hsp : Hid (Crc.prod (Crc.pw (8 * s)) (Crc.pw (8 * p)) = Crc.pw (8 * (s + p))) := by
        show _ = _
        rw [Crc.pw_mul]; congr 1; omega
      generalize Crc.pw (8 * p) = P at hp2 hsp ⊢
      generalize hS : Crc.pw (8 * s) = S at hsp ⊢
      have HSS := Lib.hid hS
      clear hS
      rcases Nat.mod_two_eq_zero_or_one l with h2 | h2
      · have hs := comb_step s l p n HQ.out
        rw [if_neg (by omega)] at hs
        have HS := Lib.hid hs
        rw [h2] at hand
        clear hs h2
        go_wp2_with (go_at_call 23; refine (product_any _ _ _).mono ?_; rintro e w' ⟨rfl, rfl⟩)
        go_round
        case rel => exact ⟨l / 2, s, p + p, by omega, HS.out, by simp, by rw [HSS.out], by rw [hp2.out]⟩
        case measure => simp [intOf]; omega
      · have hs := comb_step s l p n HQ.out
        rw [if_pos h2] at hs
        have HS := Lib.hid hs
        rw [h2] at hand
        clear hs h2
        go_wp2_with (go_at_call 23; refine (product_any _ _ _).mono ?_; rintro e w' ⟨rfl, rfl⟩)
        go_round
        case rel => exact ⟨l / 2, s + p, p + p, by omega, HS.out, by simp, by rw [hsp.out], by rw [hp2.out]⟩
        case measure => simp [intOf]; omega
    · obtain rfl : l = 0 := by omega
      go_wp2_with fail
      rw [hx.out]
      generalize hc : a ^^^ Crc.ini = c
      have HC := Lib.hid hc
      clear hc
      refine (product_any _ _ _).mono ?_
      rintro e w' ⟨rfl, rfl⟩
      go_wp2_with fail
      go_ret
      exact ⟨ret_int (by rw [← HC.out]; exact comb_end a b s p n HQ.out), rfl⟩

theorem rcombine_any (a b : BitVec 32) (n : Nat) (w : World) (hn : n ≤ 9223372036854775807) :
    Calls Try.prog 20 #[.int .u32 (a.toNat : Int), .int .u32 (b.toNat : Int), .int .i64 (n : Int)] w fun e w' => e = .returned (.int .u32 ((Crc.comb a b n).toNat : Int)) ∧ w = w' := by
  have hx : Hid (bits .xor .u32 (a.toNat : Int) 4294967295 = ((a ^^^ Crc.ini).toNat : Int)) := xor_ini a
  go_enter Try.func20, Try.ntmps20
  go_wp2_with fail
  rw [hx.out]
  generalize hc : a ^^^ Crc.ini = c
  have HC := Lib.hid hc
  clear hc
  go_loop [9, 7, 8] (fun t u v => ∃ l s p : Nat, l ≤ 9223372036854775807 ∧ s + l * p = n ∧ t = .int .i64 (l : Int) ∧ u = .int .u32 ((Crc.dbls (8 * s) c).toNat : Int) ∧ v = .int .u32 ((Crc.pw (8 * p)).toNat : Int)) (fun t _ _ => (intOf t).toNat)
  case atStart => exact ⟨n, 0, 1, by omega, by omega, rfl, rfl, by rw [Crc.pw_8]; rfl⟩
  case round =>
    obtain ⟨l, s, p, hl, hq, rfl, rfl, rfl⟩ := hrel
    have HQ := Lib.hid hq
    clear hq
    by_cases hlt : 0 < l
    · have hand := and1_i64 l hl
      have hp2 : Hid (Crc.prod (Crc.pw (8 * p)) (Crc.pw (8 * p)) = Crc.pw (8 * (p + p))) := by
        show _ = _
        rw [Crc.pw_mul]; congr 1; omega
      have hsp : Hid (Crc.prod (Crc.dbls (8 * s) c) (Crc.pw (8 * p)) = Crc.dbls (8 * (s + p)) c) := by
        show _ = _
        rw [Crc.prod_pw, ← Crc.dbls_add]; congr 1; omega
      generalize Crc.pw (8 * p) = P at hp2 hsp ⊢
      generalize hS : Crc.dbls (8 * s) c = S at hsp ⊢
      have HSS := Lib.hid hS
      clear hS
      rcases Nat.mod_two_eq_zero_or_one l with h2 | h2
      · have hs := comb_step s l p n HQ.out
        rw [if_neg (by omega)] at hs
        have HS := Lib.hid hs
        clear hs
        have hmod : (l : Int) % 2 = ((l % 2 : Nat) : Int) := by omega
        rw [h2] at hmod
        clear h2 hand
        go_wp2_with (go_at_call 24; refine (times_any _ _ _).mono ?_; rintro e w' ⟨rfl, rfl⟩)
        go_round
        case rel => exact ⟨l / 2, s, p + p, by omega, HS.out, by simp, by rw [HSS.out], by rw [hp2.out]⟩
        case measure => simp [intOf]; omega
      · have hs := comb_step s l p n HQ.out
        rw [if_pos h2] at hs
        have HS := Lib.hid hs
        clear hs
        have hmod : (l : Int) % 2 = ((l % 2 : Nat) : Int) := by omega
        rw [h2] at hmod
        clear h2 hand
        go_wp2_with (go_at_call 24; refine (times_any _ _ _).mono ?_; rintro e w' ⟨rfl, rfl⟩)
        go_round
        case rel => exact ⟨l / 2, s + p, p + p, by omega, HS.out, by simp, by rw [hsp.out], by rw [hp2.out]⟩
        case measure => simp [intOf]; omega
    · obtain rfl : l = 0 := by omega
      go_wp2_with fail
      go_ret
      exact ⟨ret_int (by rw [← HC.out]; exact rcomb_end a b s p n HQ.out), rfl⟩

end Go.Proofs.Ytcidjflgmhhkbaa
