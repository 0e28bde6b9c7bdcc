/- Dates: decimal (of the laws) and dateOf. -/
import Derived.Test.YtkbaappeakgnoaaGreatDoorRetWalk
import Derived.Test.YtkbaappeakgnoaaGreatDoorDecimal
import Derived.Test.YtkbaappeakgnoaaGreatDoorAsmSpec
import Derived.Shelf.Strings.SlTrimAscii
import Derived.Laws.IdiomStrings
import Derived.Deep.AppendLies
namespace Go.Proofs.YtkbaappeakgnoaaGreatDoor
open Go.RowKit
open Go.Lib hiding intOf
open Dec
set_option linter.unusedVariables false
set_option linter.unusedSimpArgs false

/-- the text of bytes -/
def BY (l : List UInt8) : ByteArray := ⟨l.toArray⟩
theorem BY_data (l : List UInt8) : (BY l).data.toList = l := rfl
theorem BY_cons (c : UInt8) (l : List UInt8) : (⟨#[c]⟩ : ByteArray) ++ BY l = BY (c :: l) := by
  apply bytes_inj
  rw [ByteArray.data_append, Array.toList_append]
  rfl
theorem byte_conv (W : World) (c : Int) (d : UInt8) (hc : c = (d.toNat : Int)) : (convert 53 9 (.slice (some ⟨W.heap.size, 0, none⟩) 1 1)).run Tryz.prog (W.alloc (.cells #[.int .u8 c] 5)) = .ok (.string ⟨#[d]⟩) (W.alloc (.cells #[.int .u8 c] 5)) := by
  refine run_convert_bytes_back (P := Tryz.prog) _ 53 9 5 ⟨W.heap.size, 0, none⟩ 1 [d] Tryz.underlying53 Tryz.underlying5 Tryz.underlying9 (fun j hj => ?_)
  have hj0 : j = 0 := by simpa using hj
  subst hj0
  have := World.news_of_block (heap_alloc_new W (.cells #[.int .u8 c] 5)) 0 (.int .u8 c) rfl
  rw [this, hc]
  rfl
theorem decLen (n : Nat) (h : n ≤ 1000000000) : (decDigits n).length ≤ 10 := dec_len (k := 9) (Nat.lt_of_le_of_lt h (by decide))
set_option maxHeartbeats 1600000 in
set_option maxRecDepth 100000 in
theorem decimal_any (n : Nat) (w : World) (hn : n ≤ 1000000000) :
    Calls Tryz.prog 9 #[.int .i64 n] w fun e w' => e = .returned (.string (BY (decDigits n))) ∧ Ext w w' := by
  have hlen := decLen n hn
  obtain ⟨R, hR⟩ : ∃ R, R = decDigits n := ⟨_, rfl⟩
  rw [← hR] at hlen ⊢
  have HR : Hid (decDigits n ++ [] = R) := by show _ = _; rw [hR, List.append_nil]
  clear hR
  go_enter Tryz.func9, Tryz.ntmps9
  go_wp2_with fail
  go_loopw [0, 3] (fun i s wr => ∃ (k : Nat) (X : List UInt8), i = .int .i64 k ∧ s = .string (BY X) ∧ k ≤ n ∧ decDigits k ++ X = R ∧ Ext w wr) (fun i _ _ => (intOf i).toNat)
  case atStart => exact ⟨n, [], rfl, rfl, Nat.le_refl _, HR.out, Ext.refl _⟩
  case round =>
    obtain ⟨k, X, rfl, rfl, hk, hgo, hx⟩ := hrel
    have hXl : (BY X).size ≤ 10 := by
      have := congrArg List.length hgo
      rw [List.length_append] at this
      show X.length ≤ 10
      omega
    by_cases h10 : 10 ≤ k
    · have hd : decide ((10 : Int) ≤ (k : Int)) = true := decide_eq_true (by omega)
      have hnx : Hid (decDigits (k / 10) ++ (UInt8.ofNat (48 + k % 10) :: X) = R) := by
        show _ = _
        rw [← hgo, dec_big (n := k) (by omega), List.append_assoc]
        rfl
      have hcat : Hid ((⟨#[UInt8.ofNat (48 + k % 10)]⟩ : ByteArray) ++ BY X = BY (UInt8.ofNat (48 + k % 10) :: X)) := BY_cons _ _
      have hcv := byte_conv wr (48 + (k : Int) % 10) (UInt8.ofNat (48 + k % 10)) (by rw [(dgB_of (k % 10) (by omega)).2]; omega)
      generalize UInt8.ofNat (48 + k % 10) = d at *
      have hq : (k : Int) / 10 = ((k / 10 : Nat) : Int) := rfl
      have HQ := Lib.hid hq
      clear hgo hq
      go_wp2_with fail
      go_roundw
      case rel => exact ⟨k / 10, d :: X, by rw [HQ.out], by rw [hcat.out], by omega, hnx.out, hx.alloc _⟩
      case measure => (simp [intOf] <;> omega)
    · have hd : decide ((10 : Int) ≤ (k : Int)) = false := decide_eq_false (by omega)
      have hfin : Hid (BY (UInt8.ofNat (48 + k) :: X) = BY R) := by
        show _ = _
        rw [← hgo, dec_small (by omega)]
        rfl
      have hcat : Hid ((⟨#[UInt8.ofNat (48 + k)]⟩ : ByteArray) ++ BY X = BY (UInt8.ofNat (48 + k) :: X)) := BY_cons _ _
      have hcv := byte_conv wr (48 + (k : Int)) (UInt8.ofNat (48 + k)) (by rw [(dgB_of k (by omega)).2]; omega)
      generalize UInt8.ofNat (48 + k) = d at *
      clear hgo
      go_wp2_with fail
      go_ret
      exact ⟨by rw [← hfin.out, ← hcat.out]; rfl, hx.alloc _⟩
theorem dwAll (p : UInt8 → Bool) (l : List UInt8) (h : ∀ x ∈ l, p x = true) : l.dropWhile p = [] := by
  induction l with
  | nil => rfl
  | cons x l ih => rw [List.dropWhile_cons, if_pos (h x List.mem_cons_self), ih (fun y hy => h y (List.mem_cons_of_mem _ hy))]
theorem dig_in (c : UInt8) (h : dgB c = true) : ([48, 49, 50, 51, 52, 53, 54, 55, 56, 57] : List UInt8).contains c = true := by
  obtain ⟨h1, h2⟩ := (dgB_iff c).1 h
  have hc : c.toNat = 48 ∨ c.toNat = 49 ∨ c.toNat = 50 ∨ c.toNat = 51 ∨ c.toNat = 52 ∨ c.toNat = 53 ∨ c.toNat = 54 ∨ c.toNat = 55 ∨ c.toNat = 56 ∨ c.toNat = 57 := by omega
  rcases hc with h | h | h | h | h | h | h | h | h | h
  · rw [show c = 48 from UInt8.toNat_inj.1 h]; rfl
  · rw [show c = 49 from UInt8.toNat_inj.1 h]; rfl
  · rw [show c = 50 from UInt8.toNat_inj.1 h]; rfl
  · rw [show c = 51 from UInt8.toNat_inj.1 h]; rfl
  · rw [show c = 52 from UInt8.toNat_inj.1 h]; rfl
  · rw [show c = 53 from UInt8.toNat_inj.1 h]; rfl
  · rw [show c = 54 from UInt8.toNat_inj.1 h]; rfl
  · rw [show c = 55 from UInt8.toNat_inj.1 h]; rfl
  · rw [show c = 56 from UInt8.toNat_inj.1 h]; rfl
  · rw [show c = 57 from UInt8.toNat_inj.1 h]; rfl
/-- what Trim leaves of digits -/
theorem trim_digits (n : Nat) : trimS (decDigits n) [48, 49, 50, 51, 52, 53, 54, 55, 56, 57] = [] := by
  have e : trimS (decDigits n) [48, 49, 50, 51, 52, 53, 54, 55, 56, 57] = (((decDigits n).reverse.dropWhile (([48, 49, 50, 51, 52, 53, 54, 55, 56, 57] : List UInt8).contains ·)).reverse).dropWhile (([48, 49, 50, 51, 52, 53, 54, 55, 56, 57] : List UInt8).contains ·) := rfl
  rw [e, dwAll _ _ (fun x hx => dig_in x (dec_dig n x (List.mem_reverse.1 hx)))]
  rfl
theorem trimDig_any (n : Nat) (w : World) (hn : n ≤ 1000000000) :
    Calls Tryz.prog 36 #[.string (BY (decDigits n)), .string ⟨#[48, 49, 50, 51, 52, 53, 54, 55, 56, 57]⟩] w fun e w' => e = .returned (.string ⟨#[]⟩) ∧ Ext w w' := by
  refine (Any.strings_Trim_laid Tryz.lays160 (by kernel_rfl) (BY (decDigits n)) ⟨#[48, 49, 50, 51, 52, 53, 54, 55, 56, 57]⟩ w (by have := decLen n hn; show (decDigits n).length ≤ _; omega) (by decide) (ascii_of_all (by decide))).mono ?_
  rintro e w' ⟨rfl, hx⟩
  refine ⟨?_, hx⟩
  rw [BY_data, show (⟨#[48, 49, 50, 51, 52, 53, 54, 55, 56, 57]⟩ : ByteArray).data.toList = [48, 49, 50, 51, 52, 53, 54, 55, 56, 57] from rfl, trim_digits]
set_option maxHeartbeats 1600000 in
set_option maxRecDepth 100000 in
theorem dateOf_any (n : Nat) (w : World) (hn : n ≤ 1000000000) :
    Calls Tryz.prog 20 #[.string (BY (decDigits n))] w fun e w' => e = .returned (.tuple #[.int .i64 n, .bool true]) ∧ Ext w w' := by
  have HT := Lib.hid (trimDig_any n w hn)
  have hlen := decLen n hn
  have HA : Hid (∀ W, Calls Tryz.prog 37 #[.string (BY (decDigits n))] W fun e w' => e = .returned (.tuple #[.int .i64 (n : Int), .nilIface]) ∧ Ext W w') := fun W =>
    (Tryz.strconv_Atoi (BY (decDigits n)) (n : Int) (by show (decDigits n).length ≤ _; omega) (by rw [BY_data]; exact atoi_dec n) W).mono (fun e w' ⟨h, t, hw⟩ => ⟨h, by rw [hw]; exact Lib.bytesWorld_below _ _ _⟩)
  have hsz : (BY (decDigits n)).size = (decDigits n).length := rfl
  have h1 : ((BY (decDigits n)).toList == []) = false := by
    rw [ByteArray.toList_eq, BY_data]
    simpa using dec_ne n
  have h0 : 0 < (BY (decDigits n)).size := by rw [hsz]; exact List.length_pos_iff.2 (dec_ne n)
  have hzero : (n = 0 ∧ BY (decDigits n) = ⟨#[48]⟩) ∨ ((((BY (decDigits n))[0].toNat : Nat) : Int) == 48) = false := by
    by_cases hn0 : n = 0
    · left
      refine ⟨hn0, ?_⟩
      subst hn0
      rw [dec_small (by omega)]
      rfl
    · right
      obtain ⟨c, r, hc, hne⟩ := dec_head n (by omega)
      have hg : (BY (decDigits n))[0] = c := by
        have : (BY (decDigits n)).data.toList[0]? = some c := by rw [BY_data, hc]; rfl
        rw [List.getElem?_eq_getElem (by simpa using h0)] at this
        exact Option.some.inj this
      rw [hg]
      simp only [beq_eq_false_iff_ne, ne_eq]
      intro e
      exact hne (UInt8.toNat_inj.1 (show c.toNat = 48 by omega))
  have hd : decide ((n : Int) ≤ 1000000000) = true := decide_eq_true (by omega)
  clear hlen hsz
  generalize BY (decDigits n) = S at *
  rcases hzero with ⟨-, hz⟩ | hz
  · subst hz
    clear h1 h0
    go_enter Tryz.func20, Tryz.ntmps20
    go_wp2_with fail
    refine HT.out.mono ?_
    rintro e w1 ⟨rfl, hx1⟩
    go_wp2_with fail
    refine (HA.out _).mono ?_
    rintro e w2 ⟨rfl, hx3⟩
    have hx2 := hx1.trans hx3
    clear hx1 hx3
    go_wp2_with fail
    go_ret2
    exact ⟨rfl, hx2⟩
  · go_enter Tryz.func20, Tryz.ntmps20
    go_wp2_with fail
    refine HT.out.mono ?_
    rintro e w1 ⟨rfl, hx1⟩
    go_wp2_with fail
    refine (HA.out _).mono ?_
    rintro e w2 ⟨rfl, hx3⟩
    have hx2 := hx1.trans hx3
    clear hx1 hx3
    go_wp2_with fail
    go_ret2
    exact ⟨rfl, hx2⟩
end Go.Proofs.YtkbaappeakgnoaaGreatDoor
