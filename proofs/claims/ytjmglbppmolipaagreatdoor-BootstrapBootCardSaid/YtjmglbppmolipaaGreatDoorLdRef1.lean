/- Contracts of the reference: a mark at a place, the frames of pieces. (Layer 27) -/
import Derived.Test.YtjmglbppmolipaaGreatDoorLdPieces
import Derived.Test.YtjmglbppmolipaaGreatDoorPfRDec3
namespace Go.Proofs.YtjmglbppmolipaaGreatDoor
open Go.RowKit
open Go.Lib hiding intOf
set_option linter.unusedVariables false

/-- the cell at a place, 0 behind the end -/
def cellAt (l : List UInt8) (i : Nat) : UInt8 := l.getD i 0
theorem rcell_any (s : ByteArray) (i : Nat) (w : World) (hs : s.size ≤ maxLen) (hi : i ≤ maxLen) :
    Calls Tryz.prog 80 #[.string s, .int .i64 i] w fun e w' => e = .returned (.int .u8 ((cellAt s.data.toList i).toNat : Int)) ∧ w = w' := by
  unfold maxLen at hs hi
  by_cases h1 : i < s.size
  · have e : cellAt s.data.toList i = s[i] := by unfold cellAt; rw [List.getD_eq_getElem?_getD, List.getElem?_eq_getElem (show i < s.data.toList.length from h1)]; rfl
    rw [e]
    go_enter Tryz.func80, Tryz.ntmps80
    go_wp2_with fail
    go_ret
    exact ⟨rfl, rfl⟩
  · have e : cellAt s.data.toList i = 0 := by unfold cellAt; rw [List.getD_eq_getElem?_getD, List.getElem?_eq_none (show s.data.toList.length ≤ i from Nat.le_of_not_lt h1)]; rfl
    rw [e]
    go_enter Tryz.func80, Tryz.ntmps80
    go_wp2_with fail
    go_ret
    exact ⟨rfl, rfl⟩
theorem rfar_any (s : ByteArray) (i : Nat) (w : World) (hs : s.size ≤ maxLen) (hi : i ≤ maxLen) :
    Calls Tryz.prog 79 #[.string s, .int .i64 i] w fun e w' => e = .returned (.bool (decide (s.size ≤ i))) ∧ w = w' := by
  unfold maxLen at hs hi
  by_cases h1 : s.size ≤ i
  · rw [decide_eq_true h1]
    go_enter Tryz.func79, Tryz.ntmps79
    go_wp2_with fail
    go_ret
    exact ⟨ret_bool (by first | rfl | exact decide_eq_true (by omega)), rfl⟩
  · rw [decide_eq_false h1]
    go_enter Tryz.func79, Tryz.ntmps79
    go_wp2_with fail
    go_ret
    exact ⟨ret_bool (by first | rfl | exact decide_eq_false (by omega)), rfl⟩
theorem isPl_of {l : List UInt8} {i : Nat} (h : ∀ j, (hj : j < 16) → cellAt l (i + j) = plainM[j]'hj) : isPl l i = true := by
  have hlen : i + 16 ≤ l.length := by
    have h15 := h 15 (by decide)
    rcases Nat.lt_or_ge (i + 15) l.length with h' | h'
    · omega
    · unfold cellAt at h15
      rw [List.getD_eq_getElem?_getD, List.getElem?_eq_none h'] at h15
      exact absurd h15 (by decide)
  unfold isPl
  rw [decide_eq_true hlen, Bool.true_and, decide_eq_true_eq]
  apply List.ext_getElem
  · rw [List.length_take, List.length_drop]
    show min 16 (l.length - i) = 16
    omega
  · intro j h1 h2
    have := h j h2
    unfold cellAt at this
    rw [List.getD_eq_getElem?_getD, List.getElem?_eq_getElem (by have : j < 16 := h2; omega)] at this
    rw [List.getElem_take, List.getElem_drop]
    exact this
theorem isPl_no {l : List UInt8} {i j : Nat} (hj : j < 16) (h : cellAt l (i + j) ≠ plainM[j]'hj) : isPl l i = false := by
  rw [Bool.eq_false_iff]
  intro hp
  unfold isPl at hp
  rw [Bool.and_eq_true, decide_eq_true_eq, decide_eq_true_eq] at hp
  apply h
  unfold cellAt
  rw [List.getD_eq_getElem?_getD, List.getElem?_eq_getElem (by omega)]
  have : ((l.drop i).take 16)[j]'(by rw [List.length_take, List.length_drop]; omega) = plainM[j]'hj := by simp only [hp.2]
  rw [List.getElem_take, List.getElem_drop] at this
  exact this

set_option maxRecDepth 100000 in
theorem ripl_any (s : ByteArray) (i : Nat) (w : World) (hs : s.size ≤ maxLen) (hi : i ≤ 9000000000000) :
    Calls Tryz.prog 45 #[.string s, .int .i64 i] w fun e w' => e = .returned (.bool (isPl s.data.toList i)) ∧ w = w' := by
  have hF := Lib.hid (fun W => rfar_any s i W hs (by unfold maxLen; omega))
  have hC := Lib.hid (fun j W (h : j ≤ 9000000000100) => rcell_any s j W hs (by unfold maxLen; omega))
  have hM := Lib.hid (fun W => rmark_any W)
  obtain ⟨R, hR⟩ : ∃ R, R = isPl s.data.toList i := ⟨_, rfl⟩
  rw [← hR]
  have HF : Hid (s.size ≤ i → R = false) := fun h => by
    rw [hR]; unfold isPl
    rw [decide_eq_false (show ¬ i + 16 ≤ s.data.toList.length from by show ¬ i + 16 ≤ s.size; omega)]; rfl
  have HG : Hid ((∀ j (hj : j < 16), cellAt s.data.toList (i + j) = plainM[j]'hj) → R = true) := fun h => by rw [hR]; exact isPl_of h
  have HB : Hid (∀ j (hj : j < 16), cellAt s.data.toList (i + j) ≠ plainM[j]'hj → R = false) := fun j hj h => by rw [hR]; exact isPl_no hj h
  clear hR
  by_cases hf : s.size ≤ i
  · have h0 := HF.out hf
    subst h0
    rw [decide_eq_true hf] at hF
    clear HF HG HB hC hM
    go_enter Tryz.func45, Tryz.ntmps45
    go_wp2_with fail
    refine (hF.out _).mono ?_
    rintro e w1 ⟨rfl, rfl⟩
    go_wp2_with fail
    go_ret
    exact ⟨rfl, rfl⟩
  rw [decide_eq_false hf] at hF
  clear HF
  have HMZ : Hid (∀ j (hj : j < 16) (hb : j < (BA plainM).size), (BA plainM)[j]'hb = plainM[j]'hj) := fun j hj hb => rfl
  have hmz : (BA plainM).size = 16 := rfl
  generalize BA plainM = M at *
  go_enter Tryz.func45, Tryz.ntmps45
  go_wp2_with fail
  refine (hF.out _).mono ?_
  rintro e w1 ⟨rfl, rfl⟩
  go_wp2_with fail
  go_loop [5] (fun iv => ∃ j : Nat, iv = .int .i64 j ∧ j ≤ 16 ∧ Hid (∀ k (hk : k < 16), k < j → cellAt s.data.toList (i + k) = plainM[k]'hk)) (fun iv => 16 - (intOf iv).toNat)
  case atStart => exact ⟨0, rfl, Nat.zero_le _, fun k hk h => absurd h (Nat.not_lt_zero _)⟩
  case round =>
    obtain ⟨j, rfl, hj, HP⟩ := hrel
    by_cases hlt : j < 16
    · obtain ⟨q, hq⟩ : ∃ q, q = i + j := ⟨_, rfl⟩
      have hqi : (i : Int) + j = (q : Int) := by omega
      have hqb : q ≤ 9000000000100 := by omega
      have hmj := HMZ.out j hlt (by omega)
      by_cases he : cellAt s.data.toList (i + j) = plainM[j]'hlt
      · have HP2 : Hid (∀ k (hk : k < 16), k < j + 1 → cellAt s.data.toList (i + k) = plainM[k]'hk) := by
          intro k hk h
          by_cases e : k = j
          · subst e; exact he
          · exact HP.out k hk (by omega)
        rw [← hmj, ← hq] at he
        have hb : ((((cellAt s.data.toList q).toNat : Nat) : Int) == (((M[j]'(by omega)).toNat : Nat) : Int)) = true := by rw [he]; exact beq_self_eq_true _
        have HCQ := Lib.hid (fun W => hC.out q W hqb)
        generalize cellAt s.data.toList q = c at *
        clear he hmj hq
        go_wp2_with fail
        refine (HCQ.out _).mono ?_
        rintro e w1 ⟨rfl, rfl⟩
        go_wp2_with fail
        refine (hM.out _).mono ?_
        rintro e w1 ⟨rfl, rfl⟩
        go_wp2_with fail
        go_round
        case rel => exact ⟨j + 1, by go_num, by omega, HP2⟩
        case measure => simp [intOf]; omega
      · have h0 := HB.out j hlt he
        subst h0
        rw [← hmj, ← hq] at he
        have hb : ((((cellAt s.data.toList q).toNat : Nat) : Int) == (((M[j]'(by omega)).toNat : Nat) : Int)) = false := by
          rw [beq_eq_false_iff_ne]; intro e; exact he (UInt8.toNat_inj.1 (by omega))
        have HCQ := Lib.hid (fun W => hC.out q W hqb)
        generalize cellAt s.data.toList q = c at *
        clear he hmj hq HG HB
        go_wp2_with fail
        refine (HCQ.out _).mono ?_
        rintro e w1 ⟨rfl, rfl⟩
        go_wp2_with fail
        refine (hM.out _).mono ?_
        rintro e w1 ⟨rfl, rfl⟩
        go_wp2_with fail
        go_ret
        exact ⟨rfl, rfl⟩
    · obtain rfl : j = 16 := by omega
      have ht := HG.out (fun k hk => HP.out k hk hk)
      subst ht
      clear HG HB
      go_wp2_with fail
      go_ret
      exact ⟨rfl, rfl⟩
end Go.Proofs.YtjmglbppmolipaaGreatDoor
