/- Contracts of the reference: Check, Unreadable, ToBytes, number. (Layer 26) -/
import Derived.Test.YtjmglbppmolipaaGreatDoorPfDec
import Derived.Lib.Bytealg
namespace Go.Proofs.YtjmglbppmolipaaGreatDoor
open Go.RowKit
open Go.Lib hiding intOf
set_option linter.unusedVariables false

def cellC (c : UInt8) : Bool := [48, 49, 63].contains c
theorem cellC_int (c : UInt8) : cellC c = true ↔ ((c.toNat : Int) = 48 ∨ (c.toNat : Int) = 49 ∨ (c.toNat : Int) = 63) := by
  have h : ∀ c : Fin 256, cellC (UInt8.ofNat c.val) = true ↔ (((UInt8.ofNat c.val).toNat : Int) = 48 ∨ ((UInt8.ofNat c.val).toNat : Int) = 49 ∨ ((UInt8.ofNat c.val).toNat : Int) = 63) := by decide +kernel
  have := h ⟨c.toNat, c.toNat_lt⟩
  simpa using this
theorem cellsOk_bad {l : List UInt8} {i : Nat} (h : i < l.length) (h1 : cellC l[i] = false) : cellsOk l = false := by
  unfold cellsOk
  rw [List.all_eq_false]
  exact ⟨_, List.getElem_mem h, by rw [show ([48, 49, 63].contains l[i]) = cellC l[i] from rfl, h1]; decide⟩
theorem cellsOk_all {l : List UInt8} (h : ∀ i (h : i < l.length), cellC l[i] = true) : cellsOk l = true := by
  unfold cellsOk
  rw [List.all_eq_true]
  intro x hx
  obtain ⟨i, hi, rfl⟩ := List.getElem_of_mem hx
  exact h i hi

set_option maxRecDepth 100000 in
theorem rccheck_any (s : ByteArray) (w : World) (hs : s.size ≤ maxLen) :
    Calls Tryz.prog 111 #[.string s] w fun e w' => e = .returned (.int .i64 (chkC s.data.toList)) ∧ w = w' := by
  unfold maxLen at hs
  obtain ⟨R, hR⟩ : ∃ R, R = chkC s.data.toList := ⟨_, rfl⟩
  rw [← hR]
  have HB : Hid (∀ i (h : i < s.size), cellC s[i] = false → R = 3) := fun i h h1 => by rw [hR]; unfold chkC; rw [cellsOk_bad (show i < s.data.toList.length from h) h1]; rfl
  have HG : Hid ((∀ i (h : i < s.size), cellC s[i] = true) → R = 0) := fun h => by rw [hR]; unfold chkC; rw [cellsOk_all h]; rfl
  clear hR
  go_enter Tryz.func111, Tryz.ntmps111
  go_wp2_with fail
  go_loop [3] (fun iv => ∃ i : Nat, iv = .int .i64 i ∧ i ≤ s.size ∧ Hid (∀ j (h : j < s.size), j < i → cellC s[j] = true)) (fun iv => s.size - (intOf iv).toNat)
  case atStart => exact ⟨0, rfl, Nat.zero_le _, fun j h h' => absurd h' (Nat.not_lt_zero _)⟩
  case round =>
    obtain ⟨i, rfl, hi, HP⟩ := hrel
    by_cases hlt : i < s.size
    · by_cases hp : cellC s[i] = true
      · have hp' := (cellC_int _).1 hp
        have HP2 : Hid (∀ j (h : j < s.size), j < i + 1 → cellC s[j] = true) := by
          intro j h h'
          by_cases e : j = i
          · subst e; exact hp
          · exact HP.out j h (by omega)
        clear hp HP
        rcases hp' with h1 | h1 | h1
        all_goals
          go_wp2_with fail
          go_round
          case rel => exact ⟨i + 1, by go_num, by omega, HP2⟩
          case measure => simp [intOf]; omega
      · have hf := HB.out i hlt (Bool.eq_false_iff.2 hp)
        subst hf
        have hp' := fun h => hp ((cellC_int _).2 h)
        have h1 : ¬ ((s[i].toNat : Int) = 48) := fun h => hp' (.inl h)
        have h2 : ¬ ((s[i].toNat : Int) = 49) := fun h => hp' (.inr (.inl h))
        have h3 : ¬ ((s[i].toNat : Int) = 63) := fun h => hp' (.inr (.inr h))
        have g1 : ((s[i].toNat : Int) != 48) = true := by simpa using h1
        have g2 : ((s[i].toNat : Int) != 49) = true := by simpa using h2
        have g3 : ((s[i].toNat : Int) != 63) = true := by simpa using h3
        clear hp' hp HB HG HP
        go_wp2_with fail
        go_ret
        exact ⟨rfl, rfl⟩
    · have ht := HG.out (fun j h => HP.out j h (by omega))
      subst ht
      clear HB HG HP
      go_wp2_with fail
      go_ret
      exact ⟨rfl, rfl⟩

theorem count_snoc (l : List UInt8) (i : Nat) (h : i < l.length) : Lib.countByte (l.take (i + 1)) 63 = Lib.countByte (l.take i) 63 + if l[i] = 63 then 1 else 0 := by
  unfold Lib.countByte
  rw [List.take_succ_eq_append_getElem h, List.count_append]
  congr 1
  rw [List.count_singleton]
  by_cases e : l[i] = 63 <;> simp [e]

set_option maxRecDepth 100000 in
theorem runread_any (s : ByteArray) (w : World) (hs : s.size ≤ maxLen) :
    Calls Tryz.prog 112 #[.string s] w fun e w' => e = .returned (.int .i64 (Lib.countByte s.data.toList 63 : Nat)) ∧ w = w' := by
  unfold maxLen at hs
  have HS := Lib.hid (count_snoc s.data.toList)
  have HN : Hid (∀ i, Lib.countByte (s.data.toList.take i) 63 ≤ i) := fun i => Nat.le_trans List.count_le_length (by rw [List.length_take]; omega)
  obtain ⟨R, hR⟩ : ∃ R, R = Lib.countByte s.data.toList 63 := ⟨_, rfl⟩
  rw [← hR]
  have HF : Hid (Lib.countByte (s.data.toList.take s.size) 63 = R) := by show _ = _; rw [hR, List.take_of_length_le (show s.data.toList.length ≤ s.size from Nat.le_refl _)]
  clear hR
  go_enter Tryz.func112, Tryz.ntmps112
  go_wp2_with fail
  go_loop [3, 4] (fun nv iv => ∃ i n : Nat, iv = .int .i64 i ∧ i ≤ s.size ∧ nv = .int .i64 n ∧ n ≤ i ∧ Hid (n = Lib.countByte (s.data.toList.take i) 63)) (fun _ iv => s.size - (intOf iv).toNat)
  case atStart => exact ⟨0, 0, rfl, Nat.zero_le _, rfl, Nat.le_refl _, rfl⟩
  case round =>
    obtain ⟨i, n, rfl, hi, rfl, hn, HP⟩ := hrel
    by_cases hlt : i < s.size
    · have h1 := HS.out i hlt
      rw [← HP.out] at h1
      have hidx : s.data.toList[i]'hlt = s[i] := rfl
      rw [hidx] at h1
      by_cases hc : s[i] = 63
      · rw [if_pos hc] at h1
        have hc' : ((s[i].toNat : Int)) = 63 := by rw [hc]; rfl
        have H1 := Lib.hid h1
        clear h1 hc hidx
        go_wp2_with fail
        go_round
        case rel => exact ⟨i + 1, n + 1, by go_num, by omega, by go_num, by omega, H1.out.symm⟩
        case measure => simp [intOf]; omega
      · rw [if_neg hc, Nat.add_zero] at h1
        have hc' : ¬ ((s[i].toNat : Int)) = 63 := fun h => hc (UInt8.toNat_inj.1 (by have : (63 : UInt8).toNat = 63 := rfl; omega))
        have H1 := Lib.hid h1
        clear h1 hc hidx
        go_wp2_with fail
        go_round
        case rel => exact ⟨i + 1, n, by go_num, by omega, rfl, by omega, H1.out.symm⟩
        case measure => simp [intOf]; omega
    · obtain rfl : i = s.size := by omega
      have hf := HP.out
      rw [HF.out] at hf
      subst hf
      clear HF HS HN HP
      go_wp2_with fail
      go_ret
      exact ⟨rfl, rfl⟩

theorem digC_int (c : UInt8) : digC c = true ↔ (48 ≤ (c.toNat : Int) ∧ (c.toNat : Int) ≤ 57) := by
  unfold digC
  rw [Bool.and_eq_true, decide_eq_true_eq, decide_eq_true_eq]
  omega
/-- what number answers -/
def numZ (l : List UInt8) : Int := if digB l = true then (numD l : Int) else -1
theorem numD_snoc (l : List UInt8) (i : Nat) (h : i < l.length) : numD (l.take (i + 1)) = 10 * numD (l.take i) + (l[i].toNat - 48) := by
  unfold numD numF
  rw [List.take_succ_eq_append_getElem h, List.foldl_append]; rfl

set_option maxRecDepth 100000 in
theorem rnumber_any (s : ByteArray) (w : World) (hs : s.size ≤ 17) :
    Calls Tryz.prog 114 #[.string s] w fun e w' => e = .returned (.int .i64 (numZ s.data.toList)) ∧ w = w' := by
  obtain ⟨R, hR⟩ : ∃ R, R = numZ s.data.toList := ⟨_, rfl⟩
  rw [← hR]
  have HB : Hid (∀ i (h : i < s.size), digC s[i] = false → R = -1) := fun i h h1 => by
    rw [hR]; unfold numZ
    rw [if_neg]
    intro hd
    unfold digB at hd
    rw [List.all_eq_true] at hd
    have := hd _ (List.getElem_mem (show i < s.data.toList.length from h))
    rw [show s.data.toList[i]'h = s[i] from rfl, h1] at this
    cases this
  have HG : Hid ((∀ i (h : i < s.size), digC s[i] = true) → R = (numD (s.data.toList.take s.size) : Int)) := fun h => by
    rw [hR]; unfold numZ
    rw [List.take_of_length_le (show s.data.toList.length ≤ s.size from Nat.le_refl _), if_pos]
    unfold digB
    rw [List.all_eq_true]
    intro x hx
    obtain ⟨i, hi, rfl⟩ := List.getElem_of_mem hx
    exact h i hi
  have HS := Lib.hid (numD_snoc s.data.toList)
  have HN : Hid (∀ i (h : i ≤ s.size), (∀ j (h : j < s.size), j < i → digC s[j] = true) → numD (s.data.toList.take i) < 100000000000000000) := fun i h hd => by
    have := numD_lt (s.data.toList.take i) (by
      unfold digB
      rw [List.all_eq_true]
      intro x hx
      obtain ⟨j, hj, rfl⟩ := List.getElem_of_mem hx
      rw [List.length_take] at hj
      rw [List.getElem_take]
      exact hd j (by omega) (by omega))
    exact Nat.lt_of_lt_of_le this (Nat.pow_le_pow_right (by decide) (by rw [List.length_take]; omega : (s.data.toList.take i).length ≤ 17))
  clear hR
  go_enter Tryz.func114, Tryz.ntmps114
  go_wp2_with fail
  go_loop [3, 4] (fun nv iv => ∃ i n : Nat, iv = .int .i64 i ∧ i ≤ s.size ∧ nv = .int .i64 n ∧ n < 100000000000000000 ∧ Hid (n = numD (s.data.toList.take i) ∧ ∀ j (h : j < s.size), j < i → digC s[j] = true)) (fun _ iv => s.size - (intOf iv).toNat)
  case atStart => exact ⟨0, 0, rfl, Nat.zero_le _, rfl, by decide, rfl, fun j h h' => absurd h' (Nat.not_lt_zero _)⟩
  case round =>
    obtain ⟨i, n, rfl, hi, rfl, hn, HP⟩ := hrel
    by_cases hlt : i < s.size
    · by_cases hp : digC s[i] = true
      · have hp' := (digC_int _).1 hp
        obtain ⟨p1, p2⟩ := hp'
        have HP2 : Hid (∀ j (h : j < s.size), j < i + 1 → digC s[j] = true) := by
          intro j h h'
          by_cases e : j = i
          · subst e; exact hp
          · exact HP.out.2 j h (by omega)
        have h1 := HS.out i hlt
        rw [← HP.out.1, show s.data.toList[i]'hlt = s[i] from rfl] at h1
        have hlt2 := HN.out (i + 1) (by omega) HP2.out
        obtain ⟨m, hm⟩ : ∃ m, m = 10 * n + (s[i].toNat - 48) := ⟨_, rfl⟩
        rw [← hm] at h1
        rw [h1] at hlt2
        have H1 := Lib.hid h1
        have hmi : (10 : Int) * n + ((s[i].toNat : Int) - 48) = (m : Int) := by omega
        clear h1 hp HP hm
        go_wp2_with fail
        go_round
        case rel => exact ⟨i + 1, m, by go_num, by omega, by first | rfl | go_num | (congr 1), hlt2, H1.out.symm, HP2.out⟩
        case measure => simp [intOf]; omega
      · have hf := HB.out i hlt (Bool.eq_false_iff.2 hp)
        subst hf
        have hp' : ¬ (48 ≤ (s[i].toNat : Int) ∧ (s[i].toNat : Int) ≤ 57) := fun h => hp ((digC_int _).2 h)
        clear hp HB HG HP HN
        by_cases q1 : (s[i].toNat : Int) < 48
        · go_wp2_with fail
          go_ret
          exact ⟨rfl, rfl⟩
        · have q2 : 57 < (s[i].toNat : Int) := by omega
          clear hp'
          go_wp2_with fail
          go_ret
          exact ⟨rfl, rfl⟩
    · obtain rfl : i = s.size := by omega
      have ht := HG.out (fun j h => HP.out.2 j h h)
      rw [← HP.out.1] at ht
      subst ht
      clear HB HG HP
      go_wp2_with fail
      go_ret
      exact ⟨rfl, rfl⟩
end Go.Proofs.YtjmglbppmolipaaGreatDoor
