/- The law PlainframeBurst returns true. (Layer 26) -/
import Derived.Test.YtboafongjbdmoaaDoorPfLawRT
import Derived.Test.YtboafongjbdmoaaDoorBytesMem
import Derived.IntWalk
import Derived.Laws.BitsAllLaws
import Derived.BigRegion
namespace Go.Proofs.YtboafongjbdmoaaDoor
open Go.RowKit
open Go.Lib hiding intOf
set_option linter.unusedVariables false

theorem and1_u32 (p i : Nat) (h : p < 4294967296) : bits .and .u32 ((p : Int) / 2 ^ i) 1 = ((p / 2 ^ i % 2 : Nat) : Int) := by
  have e : (p : Int) / 2 ^ i = ((p / 2 ^ i : Nat) : Int) := by rw [Int.natCast_ediv, Int.natCast_pow]; rfl
  have h1 := u32_and_nat (p / 2 ^ i) 1 (Nat.lt_of_le_of_lt (Nat.div_le_self _ _) h) (by decide)
  rw [e, ← Nat.and_one_is_mod]
  exact h1
theorem xor_u8 (c : UInt8) (n : Nat) : bits .xor .u8 (c.toNat : Int) ((n % 2 : Nat) : Int) = ((c ^^^ UInt8.ofNat (n % 2)).toNat : Int) := by
  have h : (UInt8.ofNat (n % 2)).toNat = n % 2 := by rw [UInt8.toNat_ofNat']; omega
  have h1 := u8_xor_nat c.toNat (n % 2) c.toNat_lt (by omega)
  rw [h1, UInt8.toNat_xor, h]
theorem flipC_step (X : List UInt8) (k p i : Nat) (h : k + i < X.length) :
    (flipC X k p (i + 1)).length = (flipC X k p i).length ∧ (flipC X k p (i + 1)).getD (k + i) 0 = X[k + i] ^^^ UInt8.ofNat (p / 2 ^ i % 2) ∧ (flipC X k p i).getD (k + i) 0 = X[k + i] ∧
    (∀ j, j < (flipC X k p i).length → j ≠ k + i → (flipC X k p (i + 1)).getD j 0 = (flipC X k p i).getD j 0) := by
  have l1 := flipC_len X k p (i + 1)
  have l0 := flipC_len X k p i
  refine ⟨by rw [l1, l0], ?_, ?_, fun j hj hne => ?_⟩
  · rw [List.getD_eq_getElem?_getD, List.getElem?_eq_getElem (by omega), Option.getD_some, flipC_get X k p _ _ h, if_pos (by omega), Nat.add_sub_cancel_left]
  · rw [List.getD_eq_getElem?_getD, List.getElem?_eq_getElem (by omega), Option.getD_some, flipC_get X k p _ _ h, if_neg (by omega)]
  · rw [List.getD_eq_getElem?_getD, List.getD_eq_getElem?_getD, List.getElem?_eq_getElem (by omega), List.getElem?_eq_getElem (by omega), Option.getD_some, Option.getD_some, flipC_get X k p _ _ (by omega), flipC_get X k p _ _ (by omega)]
    by_cases h1 : k ≤ j ∧ j < k + i
    · rw [if_pos h1, if_pos (by omega)]
    · rw [if_neg h1, if_neg (by omega)]

set_option maxRecDepth 100000 in
set_option maxHeartbeats 3200000 in
theorem bst_walk (a : Nat) (i t : Int) (s : ByteArray) (m p : Nat) (w : World) (hs : s.size ≤ 200) (hm : m ≤ 65535) (hp : p < 4294967296) (hp0 : p ≠ 0) (hE : Env w) (S C : ByteArray) (k : Nat) (hk : k = m % 641)
    (hA : ∀ W, Env W → Calls Tryd.prog 14 #[.agg #[.int .u32 a, .int .i64 i, .int .i64 t, .string s]] W fun e w' => e = .returned (.tuple #[.string S, .int .i64 0]) ∧ Ext W w')
    (hSz : S.size = 768) (hcut : S.extract 16 768 = C) (hCz : C.size = 752)
    (hD : ∀ W, Env W → Calls Tryd.prog 18 #[.string (BA (flipC C.data.toList k p 32))] W fun e w' => e = .returned (.tuple #[.agg #[.int .u32 0, .int .i64 0, .int .i64 0, .string ⟨#[]⟩], .int .i64 5]) ∧ Ext W w') :
    Calls Tryd.prog 7 #[.agg #[.int .u32 a, .int .i64 i, .int .i64 t, .string s], .int .u16 m, .int .u32 p] w fun e w' => e = .returned (.bool true) ∧ Ext w w' := by
  have HW := Lib.hid (fun W (h : Env W) => awake_any W h)
  have hx0 : Ext w (w.alloc (.cells #[.int .u32 a, .int .i64 i, .int .i64 t, .string s] 31)) := (Ext.refl _).alloc _
  have hE0 := hE.ext hx0
  have HA := Lib.hid hA
  have HD := Lib.hid hD
  have hk7 : k ≤ 640 := by omega
  have hmk : (m : Int) % 641 = (k : Int) := by omega
  have hp0' : ((p : Int) == 0) = false := by rw [beq_eq_false_iff_ne]; omega
  have hcv := fun W => Lib.run_convert_string_bytes (P := Tryd.prog) W 9 40 5 C Tryd.underlying9 Tryd.underlying40 Tryd.underlying5
  clear hA hD hk hp0
  go_enter Tryd.func7, Tryd.ntmps7
  go_wp2_with fail
  refine (HA.out _ hE0).mono ?_
  rintro e w1 ⟨rfl, hx1⟩
  have hx01 := hx0.trans hx1
  clear hx1 hx0 hE0
  have hbel := Lib.hid (bytesW_ext w1 5 C)
  have HR := Lib.hid (ByteRow.new w1 5 C)
  go_wp2_with fail
  generalize grownCap w1 752 0 5 = cap
  generalize Lib.bytesWorld w1 5 C = W0 at HR hbel ⊢
  clear hcv
  simp only [hmk]
  clear hmk
  have HSTEP := Lib.hid (fun j h => flipC_step C.data.toList k p j h)
  have HL : Hid (∀ j, (flipC C.data.toList k p j).length = 752) := fun j => by rw [flipC_len]; exact hCz
  have HR0 : Hid (ByteRow W0 w1.heap.size (flipC C.data.toList k p 0)) := by show ByteRow _ _ _; rw [flipC_zero]; exact HR.out
  have HAND := Lib.hid (fun j => and1_u32 p j hp)
  have hCl : C.data.toList.length = 752 := hCz
  clear HR
  generalize hFX : flipC C.data.toList k p = FX at *
  generalize C.data.toList = X at *
  clear hFX
  go_loopw [40] (fun iv wr => ∃ j : Nat, j ≤ 32 ∧ iv = .int .i64 j ∧ ByteRow wr w1.heap.size (FX j) ∧ Ext w1 wr) (fun iv _ => 32 - (intOf iv).toNat)
  case atStart => exact ⟨0, Nat.zero_le _, rfl, HR0.out, hbel.out⟩
  case round =>
    obtain ⟨j, hj, rfl, hby, hx⟩ := hrel
    have HBY := Lib.hid hby
    clear hby
    by_cases hlt : j < 32
    · obtain ⟨m1, m2, m3, m4⟩ := HSTEP.out j (by omega)
      have hjl : k + j < (FX j).length := by rw [HL.out]; omega
      have hcell : wr.cell? ⟨w1.heap.size, k + j, none⟩ = some (.int .u8 ((X[k + j]'(by omega)).toNat : Int)) := by rw [HBY.out.cell _ hjl, m3]
      have hfree : wr.frozen? ⟨w1.heap.size, k + j, none⟩ = false := HBY.out.free _ hjl
      have hset := HBY.out.set (k + j) _ hjl m1 m2 m4
      generalize X[k + j]'(by omega) = c at *
      have hand := HAND.out j
      have hxor := xor_u8 c (p / 2 ^ j)
      have hq1 : p / 2 ^ j % 2 ≤ 1 := by omega
      generalize p / 2 ^ j % 2 = q at *
      rw [← hxor] at hset
      have HSET := Lib.hid hset
      clear hset m1 m2 m3 m4 hxor hjl
      go_wp2_with fail
      go_region
      go_wp2_with fail
      go_roundw
      case rel => exact ⟨j + 1, by omega, by go_num, HSET.out.drew, (hx.set (Nat.le_refl _) _).drew⟩
      case measure => simp [intOf]; omega
    · obtain rfl : j = 32 := by omega
      have hz := HBY.out.string cap
      rw [HL.out] at hz
      have hE2 := hE.ext (hx01.trans hx)
      generalize BA (FX 32) = Y at *
      clear HSTEP HL HBY
      go_wp2_with fail
      refine (HD.out _ hE2).mono ?_
      rintro e w2 ⟨rfl, hx2⟩
      have hx02 := (hx01.trans hx).trans hx2
      have hx03 := hx02.alloc (.cells #[.int .u32 0, .int .i64 0, .int .i64 0, .string ⟨#[]⟩] 31)
      go_wp2_with fail
      refine (HW.out _ (hE.ext hx03)).mono ?_
      rintro e w4 ⟨rfl, hx4⟩
      go_wp2_with fail
      go_ret
      exact ⟨rfl, hx03.trans hx4⟩
set_option maxRecDepth 100000 in
set_option maxHeartbeats 1600000 in
theorem lawBst_any (a : Nat) (i t : Int) (s : ByteArray) (m p : Nat) (w : World) (hs : s.size ≤ maxLen) (ha : a < 4294967296) (hm : m ≤ 65535) (hp : p < 4294967296) (hE : Env w) :
    Calls Tryd.prog 7 #[.agg #[.int .u32 a, .int .i64 i, .int .i64 t, .string s], .int .u16 m, .int .u32 p] w fun e w' => e = .returned (.bool true) ∧ Ext w w' := by
  have HW := Lib.hid (fun W (h : Env W) => awake_any W h)
  have hs' := hs
  unfold maxLen at hs
  have hx0 : Ext w (w.alloc (.cells #[.int .u32 a, .int .i64 i, .int .i64 t, .string s] 31)) := (Ext.refl _).alloc _
  have hE0 := hE.ext hx0
  by_cases h6 : (200 : Int) < s.size
  · go_enter Tryd.func7, Tryd.ntmps7
    go_wp2_with fail
    refine (HW.out _ hE0).mono ?_
    rintro e w1 ⟨rfl, hx⟩
    go_wp2_with fail
    go_ret
    exact ⟨rfl, hx0.trans hx⟩
  by_cases hp0 : p = 0
  · subst hp0
    go_enter Tryd.func7, Tryd.ntmps7
    go_wp2_with fail
    refine (HW.out _ hE0).mono ?_
    rintro e w1 ⟨rfl, hx⟩
    go_wp2_with fail
    go_ret
    exact ⟨rfl, hx0.trans hx⟩
  have hp0' : ((p : Int) == 0) = false := by rw [beq_eq_false_iff_ne]; omega
  have hA : ∀ W, Env W → Calls Tryd.prog 14 #[.agg #[.int .u32 a, .int .i64 i, .int .i64 t, .string s]] W fun e w' => e = .returned (.tuple #[.string (BA (encodeA ⟨a, i, t, s⟩).1), .int .i64 (encodeA ⟨a, i, t, s⟩).2]) ∧ Ext W w' := fun W h => encode_any ⟨a, i, t, s⟩ W ha hs' h
  unfold encodeA at hA
  by_cases hc : checkZ i t s = 0
  rotate_left
  · rw [if_neg (show ¬ checkZ (⟨a, i, t, s⟩ : Pc).index (⟨a, i, t, s⟩ : Pc).total (⟨a, i, t, s⟩ : Pc).text = 0 from hc)] at hA
    simp only at hA
    have hE0' : (checkZ i t s == 0) = false := by simpa using hc
    have hE1' : (checkZ i t s != 0) = true := by simpa using hc
    generalize checkZ i t s = E at *
    have HA : Hid (∀ W, Env W → Calls Tryd.prog 14 #[.agg #[.int .u32 a, .int .i64 i, .int .i64 t, .string s]] W fun e w' => e = .returned (.tuple #[.string ⟨#[]⟩, .int .i64 E]) ∧ Ext W w') := hA
    clear hA
    go_enter Tryd.func7, Tryd.ntmps7
    go_wp2_with fail
    refine (HA.out _ hE0).mono ?_
    rintro e w1 ⟨rfl, hx1⟩
    have hx01 := hx0.trans hx1
    go_wp2_with fail
    refine (HW.out _ (hE.ext hx01)).mono ?_
    rintro e w3 ⟨rfl, hx3⟩
    go_wp2_with fail
    go_ret
    exact ⟨rfl, hx01.trans hx3⟩
  rw [if_pos (show checkZ (⟨a, i, t, s⟩ : Pc).index (⟨a, i, t, s⟩ : Pc).total (⟨a, i, t, s⟩ : Pc).text = 0 from hc)] at hA
  simp only at hA
  have h64 := (check_ok hc).2.2.2.2.1
  obtain ⟨hz, hcut, hpl⟩ := enc_cut ⟨a, i, t, s⟩ h64
  have hl := head_len (p := ⟨a, i, t, s⟩) h64
  have hCl := cells_len (p := ⟨a, i, t, s⟩) h64
  have hk : m % 641 ≤ 640 := by omega
  generalize hL : headB ⟨a, i, t, s⟩ = L at *
  have hb := decode_burst L hl (m % 641) p hk hp0 hp
  have hfl := flipC_len (cellsB (sealB L)) (m % 641) p 32
  refine bst_walk a i t s m p w (by omega) hm hp hp0 hE (BA (encL ⟨a, i, t, s⟩)) (BA (cellsB (sealB L))) (m % 641) rfl hA hz hcut (by rw [BA_size]; exact hCl) (fun W hW => ?_)
  rw [BA_data]
  generalize flipC (cellsB (sealB L)) (m % 641) p 32 = Y at *
  have := decode_any (BA Y) W (by rw [BA_size, hfl, hCl]; decide) hW
  rw [BA_data, hb] at this
  exact this
end Go.Proofs.YtboafongjbdmoaaDoor
