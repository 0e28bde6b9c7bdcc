/- Contracts: digits, seal of the library and of the reference. (Layer 26) -/
import Derived.Test.YtjmglbppmolipaaGreatDoorPfPlain
import Derived.Test.YtjmglbppmolipaaGreatDoorPfNum
import Derived.Test.YtjmglbppmolipaaGreatDoorCrcRSum
import Derived.Lib.ItoaLen
namespace Go.Proofs.YtjmglbppmolipaaGreatDoor
open Go.RowKit
open Go.Lib hiding intOf
set_option linter.unusedVariables false

theorem repeatL_one (c : UInt8) : ∀ n, Lib.repeatL [c] n = List.replicate n c
  | 0 => rfl
  | n + 1 => by
    show [c] ++ Lib.repeatL [c] n = _
    rw [repeatL_one c n, List.replicate_succ]; rfl

theorem repeat_one (c : UInt8) (n : Nat) (w : World) (hn : n ≤ 100000) :
    Calls Tryz.prog 15 #[.string ⟨#[c]⟩, .int .i64 n] w fun e w' => e = .returned (.string (BA (List.replicate n c))) ∧ Ext w w' := by
  refine (Tryz.strings_Repeat ⟨#[c]⟩ n w (by omega) (by show 1 * n ≤ _; omega)).mono ?_
  rintro e w' ⟨rfl, hx⟩
  refine ⟨?_, hx⟩
  show Ending.returned (.string ⟨(Lib.repeatL [c] n).toArray⟩) = _
  rw [repeatL_one]; rfl

theorem digits_any (n : Nat) (w : World) :
    Calls Tryz.prog 48 #[.int .i64 n] w fun e w' => e = .returned (.tuple #[.func (.func 81) #[] #[.pointer (some ⟨w.heap.size, 0, none⟩)], .func (.func 83) #[] #[]]) ∧ w' = w.alloc (.cells #[.int .i64 n] 3) := by
  go_enter Tryz.func48, Tryz.ntmps48
  go_wp2_with fail
  refine bodyPost_ret (v := .tuple #[.func (.func 81) #[] #[.pointer (some ⟨w.heap.size, 0, none⟩)], .func (.func 83) #[] #[]]) (by simp [results, Tryz.results48, go_sem]) rfl ⟨rfl, rfl⟩

set_option maxHeartbeats 800000 in
theorem format_any (n v bx : Nat) (hn : n ≤ 100) (hv : v < 18446744073709551616) (w : World) (hE : Env w) (hc : w.cell? ⟨bx, 0, none⟩ = some (.int .i64 n)) :
    Calls Tryz.prog 81 #[.int .u64 v, .pointer (some ⟨bx, 0, none⟩)] w fun e w' => e = .returned (.string (BA (padD n v))) ∧ Ext w w' := by
  have H := Lib.hid (fmtUint_any v hv w hE)
  obtain ⟨S, hS⟩ : ∃ S, S = BA (decDigits v) := ⟨_, rfl⟩
  have hs : S.size = (decDigits v).length := by rw [hS]; rfl
  have hs20 : S.size ≤ 20 := by rw [hs, decDigits_length]; exact nDigits_le20 v hv
  have hres : Hid (BA (padD n v) = BA (List.replicate (n - S.size) 48) ++ S) := by show _ = _; unfold padD; rw [BA_append, hs, hS]
  rw [hres.out]
  rw [← hS] at H
  obtain ⟨c, hcc⟩ : ∃ c, c = n - S.size := ⟨_, rfl⟩
  have hc100 : c ≤ 100 := by omega
  rw [← hcc]
  have hmax : max (0 : Int) ((n : Int) - (S.size : Int)) = (c : Int) := by omega
  clear hres hs hS hcc
  have hR := fun W => repeat_one 48 c W (by omega)
  have hz : (BA (List.replicate c 48)).size ≤ 100 := by rw [BA_size, List.length_replicate]; exact hc100
  generalize BA (List.replicate c 48) = R at *
  have HR := Lib.hid hR
  clear hR
  go_enter Tryz.func81, Tryz.ntmps81
  go_wp2_with fail
  refine H.out.mono ?_
  rintro e w1 ⟨rfl, hx⟩
  have hc1 := hx.cell hc
  go_wp2_with fail
  refine (HR.out _).mono ?_
  rintro e w2 ⟨rfl, hx2⟩
  go_wp2_with fail
  go_ret
  exact ⟨rfl, hx.trans hx2⟩

theorem conv_dig (d : Nat) (hd : d ≤ 9) (w : World) :
    (convert 46 9 (.slice (some ⟨w.heap.size, 0, none⟩) 1 1)).run Tryz.prog (w.alloc (.cells #[.int .u8 (48 + (d : Int))] 5)) = .ok (.string (BA [UInt8.ofNat (48 + d)])) (w.alloc (.cells #[.int .u8 (48 + (d : Int))] 5)) := by
  have := run_convert_bytes_arg (P := Tryz.prog) (w.alloc (.cells #[.int .u8 (48 + (d : Int))] 5)) 46 5 Tryz.underlying46 Tryz.underlying5 w.heap.size 0 1 1 [48 + (d : Int)] rfl (by
    intro i hi
    match i, hi with
    | 0, _ => go_cell) 9 Tryz.underlying9
  rw [this]
  have e : (48 + (d : Int)).toNat = 48 + d := by omega
  show Result.ok (Value.string (strOfNums [48 + (d : Int)])) _ = _
  unfold strOfNums
  rw [List.map_cons, e]; rfl

set_option maxRecDepth 100000 in
set_option maxHeartbeats 1600000 in
/-- the reference digits -/
theorem rdigits_any (k v : Nat) (hk : k ≤ 100) (hv : v < 18446744073709551616) (w : World) :
    Calls Tryz.prog 90 #[.int .u64 v, .int .i64 k] w fun e w' => e = .returned (.string (BA (lowD k v))) ∧ Ext w w' := by
  go_enter Tryz.func90, Tryz.ntmps90
  go_wp2_with fail
  go_loopw [0, 5] (fun vv sv wr => ∃ i v' : Nat, i ≤ k ∧ vv = .int .u64 v' ∧ v' = v / 10 ^ i ∧ sv = .string (BA (lowD i v)) ∧ Ext w wr) (fun vv sv _ => match sv with | .string s => k - s.size | _ => 0)
  case atStart => exact ⟨0, v, Nat.zero_le _, rfl, by simp, rfl, Ext.refl _⟩
  case round =>
    obtain ⟨i, v', hi, rfl, hvv, rfl, hx⟩ := hrel
    have hl : (BA (lowD i v)).size = i := by rw [BA_size, lowD_len]
    by_cases hlt : i < k
    · have hv64 : v' < 18446744073709551616 := by rw [hvv]; exact Nat.lt_of_le_of_lt (Nat.div_le_self _ _) hv
      obtain ⟨q, hq⟩ : ∃ q, q = v' / 10 := ⟨_, rfl⟩
      obtain ⟨d, hd⟩ : ∃ d, d = v' % 10 := ⟨_, rfl⟩
      have eq1 : (v' : Int) / 10 = (q : Int) := by omega
      have eq2 : (v' : Int) % 10 = (d : Int) := by omega
      have hd9 : d ≤ 9 := by omega
      have hstep : Hid (BA (lowD (i + 1) v) = BA [UInt8.ofNat (48 + d)] ++ BA (lowD i v)) := by show _ = _; rw [lowD_cons, ← hvv, ← hd, ← BA_append]; rfl
      have hqv : Hid (q = v / 10 ^ (i + 1)) := by show _ = _; rw [hq, hvv, Nat.div_div_eq_div_mul, Nat.pow_succ]
      have hcv := conv_dig d hd9 wr
      have hz1 : (BA [UInt8.ofNat (48 + d)]).size = 1 := rfl
      have hz2 : Hid ((BA (lowD (i + 1) v)).size = i + 1) := by show _ = _; rw [BA_size, lowD_len]
      clear hq hd hvv
      generalize BA (lowD i v) = T at *
      generalize BA [UInt8.ofNat (48 + d)] = D at *
      go_wp2_with fail
      go_roundw
      case rel => exact ⟨i + 1, q, by omega, by go_num, hqv.out, by rw [hstep.out], hx.alloc _⟩
      case measure =>
        show k - (D ++ T).size < k - T.size
        rw [← hstep.out, hz2.out, hl]
        omega
    · obtain rfl : i = k := by omega
      go_wp2_with fail
      go_ret
      exact ⟨rfl, hx⟩

theorem sum_one (l : List UInt8) (b : Nat) (W : World) (hs : l.length ≤ 1000) (h : W.cell? ⟨b, 0, none⟩ = some (.string (BA l))) :
    Calls Tryz.prog 87 #[.slice (some ⟨b, 0, none⟩) 1 1] W fun e w' => e = .returned (.int .u32 (crcS l : Int)) ∧ W = w' := by
  have hS := sum_any [BA l] b 0 1 W (by unfold maxLen; exact Nat.le_of_ble_eq_true rfl) (fun i hi => match i, hi with | 0, _ => by show (BA l).size ≤ maxLen; rw [BA_size]; unfold maxLen; omega) (fun i hi => match i, hi with | 0, _ => h)
  have e : bytesAll [BA l] = l := by simp [bytesAll, BA_data]
  rw [e] at hS
  exact hS
theorem rsum_one (l : List UInt8) (b : Nat) (W : World) (hs : l.length ≤ 1000) (h : W.cell? ⟨b, 0, none⟩ = some (.string (BA l))) :
    Calls Tryz.prog 110 #[.slice (some ⟨b, 0, none⟩) 1 1] W fun e w' => e = .returned (.int .u32 (crcS l : Int)) ∧ W = w' := by
  have hS := rsum_any [BA l] b 0 1 W (by unfold maxLen; exact Nat.le_of_ble_eq_true rfl) (fun i hi => match i, hi with | 0, _ => by show (BA l).size ≤ maxLen; rw [BA_size]; unfold maxLen; omega) (fun i hi => match i, hi with | 0, _ => h)
  have e : bytesAll [BA l] = l := by simp [bytesAll, BA_data]
  rw [e] at hS
  exact hS

set_option maxRecDepth 100000 in
set_option maxHeartbeats 1600000 in
theorem seal_any (l : List UInt8) (w : World) (hl : l.length ≤ 1000) (hE : Env w) :
    Calls Tryz.prog 51 #[.string (BA l)] w fun e w' => e = .returned (.string (BA (sealB l))) ∧ Ext w w' := by
  rw [seal_pad, BA_append]
  have hS := fun W b (h : W.cell? ⟨b, 0, none⟩ = some (.string (BA l))) => sum_one l b W hl h
  have hc := crcS_lt l
  have hF := fun W bx (h1 : Env W) (h2 : W.cell? ⟨bx, 0, none⟩ = some (.int .i64 10)) => format_any 10 (crcS l) bx (by omega) (by omega) W h1 h2
  have hz1 : (BA l).size ≤ 1000 := hl
  have hz2 : (BA (padD 10 (crcS l))).size ≤ 1000 := by rw [BA_size, ← lowD_pad 9 _ (Nat.lt_of_lt_of_le hc (by decide)), lowD_len]; omega
  generalize crcS l = C at *
  generalize BA (padD 10 C) = R at *
  generalize BA l = L at *
  have hG := fun W => digits_any 10 W
  have HG := Lib.hid hG
  have HF := Lib.hid hF
  have HS := Lib.hid hS
  clear hF hS hG
  go_enter Tryz.func51, Tryz.ntmps51
  go_wp2_with fail
  refine (HG.out _).mono ?_
  rintro e w1 ⟨rfl, rfl⟩
  go_wp2_with fail
  refine (HS.out _ _ ?_).mono ?_
  · go_cell
  rintro e w1 ⟨rfl, rfl⟩
  go_wp2_with fail
  refine (HF.out _ _ ?_ ?_).mono ?_
  · exact hE.ext (((Ext.refl _).alloc _).alloc _)
  · go_cell
  rintro e w2 ⟨rfl, hx⟩
  go_wp2_with fail
  go_ret
  exact ⟨rfl, (((Ext.refl _).alloc _).alloc _).trans hx⟩

set_option maxRecDepth 100000 in
set_option maxHeartbeats 1600000 in
theorem rseal_any (l : List UInt8) (w : World) (hl : l.length ≤ 1000) :
    Calls Tryz.prog 91 #[.string (BA l)] w fun e w' => e = .returned (.string (BA (lowD 10 (crcS l)))) ∧ Ext w w' := by
  have hD := fun W => rdigits_any 10 (crcS l) (by omega) (Nat.lt_of_lt_of_le (crcS_lt l) (by decide)) W
  have hS := fun W b (h : W.cell? ⟨b, 0, none⟩ = some (.string (BA l))) => rsum_one l b W hl h
  have hc := crcS_lt l
  generalize crcS l = C at *
  generalize BA (lowD 10 C) = R at *
  generalize BA l = L at *
  have HD := Lib.hid hD
  have HS := Lib.hid hS
  clear hD hS
  go_enter Tryz.func91, Tryz.ntmps91
  go_wp2_with fail
  refine (HS.out _ _ ?_).mono ?_
  · go_cell
  rintro e w1 ⟨rfl, rfl⟩
  go_wp2_with fail
  refine (HD.out _).mono ?_
  rintro e w2 ⟨rfl, hx⟩
  go_wp2_with fail
  go_ret
  exact ⟨rfl, ((Ext.refl _).alloc _).trans hx⟩
end Go.Proofs.YtjmglbppmolipaaGreatDoor
