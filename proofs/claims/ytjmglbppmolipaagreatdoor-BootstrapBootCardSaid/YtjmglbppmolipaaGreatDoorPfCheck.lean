/- Contracts: printable and check of the library and of the reference. (Layer 26) -/
import Derived.Test.YtjmglbppmolipaaGreatDoorAsmLib
namespace Go.Proofs.YtjmglbppmolipaaGreatDoor
open Go.RowKit
open Go.Lib hiding intOf
set_option linter.unusedVariables false

def prC (c : UInt8) : Bool := decide (32 ≤ c.toNat) && decide (c.toNat ≤ 126)
def prB (l : List UInt8) : Bool := l.all prC
theorem prB_bad {l : List UInt8} {i : Nat} (h : i < l.length) (h1 : prC l[i] = false) : prB l = false := by
  unfold prB
  rw [List.all_eq_false]
  exact ⟨_, List.getElem_mem h, by simp [h1]⟩
theorem prB_all {l : List UInt8} (h : ∀ i (h : i < l.length), prC l[i] = true) : prB l = true := by
  unfold prB
  rw [List.all_eq_true]
  intro x hx
  obtain ⟨i, hi, rfl⟩ := List.getElem_of_mem hx
  exact h i hi

set_option maxRecDepth 100000 in
theorem printable_any (s : ByteArray) (w : World) (hs : s.size ≤ maxLen) :
    Calls Tryz.prog 46 #[.string s] w fun e w' => e = .returned (.bool (prB s.data.toList)) ∧ w = w' := by
  unfold maxLen at hs
  obtain ⟨R, hR⟩ : ∃ R, R = prB s.data.toList := ⟨_, rfl⟩
  rw [← hR]
  have HB : Hid (∀ i (h : i < s.size), prC s[i] = false → R = false) := fun i h h1 => by rw [hR]; exact prB_bad (show i < s.data.toList.length from h) h1
  have HG : Hid ((∀ i (h : i < s.size), prC s[i] = true) → R = true) := fun h => by rw [hR]; exact prB_all h
  clear hR
  go_enter Tryz.func46, Tryz.ntmps46
  go_wp2_with fail
  go_loop [6] (fun iv => ∃ i : Nat, iv = .int .i64 i ∧ i ≤ s.size ∧ Hid (∀ j (h : j < s.size), j < i → prC s[j] = true)) (fun iv => s.size - (intOf iv).toNat)
  case atStart => exact ⟨0, rfl, Nat.zero_le _, fun j h h' => absurd h' (Nat.not_lt_zero _)⟩
  case round =>
    obtain ⟨i, rfl, hi, HP⟩ := hrel
    by_cases hlt : i < s.size
    · by_cases hp : prC s[i] = true
      · have hp' := hp
        unfold prC at hp'
        rw [Bool.and_eq_true, decide_eq_true_eq, decide_eq_true_eq] at hp'
        obtain ⟨p1, p2⟩ := hp'
        have HP2 : Hid (∀ j (h : j < s.size), j < i + 1 → prC s[j] = true) := by
          intro j h h'
          by_cases e : j = i
          · subst e; exact hp
          · exact HP.out j h (by omega)
        have q1 : ¬ ((s[i].toNat : Int) < 32) := by omega
        have q2 : ¬ ((126 : Int) < (s[i].toNat : Int)) := by omega
        clear hp
        clear HP
        go_wp2_with fail
        go_round
        case rel => exact ⟨i + 1, by go_num, by omega, HP2⟩
        case measure => simp [intOf]; omega
      · have hf := HB.out i hlt (Bool.eq_false_iff.2 hp)
        subst hf
        have hp' : ¬ (32 ≤ s[i].toNat ∧ s[i].toNat ≤ 126) := by
          intro h
          apply hp
          unfold prC
          rw [Bool.and_eq_true, decide_eq_true_eq, decide_eq_true_eq]
          exact h
        by_cases q1 : ((s[i].toNat : Int) < 32)
        · clear hp' hp HB HG HP
          go_wp2_with fail
          go_ret
          exact ⟨rfl, rfl⟩
        · have q2 : ((126 : Int) < (s[i].toNat : Int)) := by omega
          clear hp' hp HB HG HP
          go_wp2_with fail
          go_ret
          exact ⟨rfl, rfl⟩
    · have ht := HG.out (fun j h => HP.out j h (by omega))
      subst ht
      clear HB HG HP
      go_wp2_with fail
      go_ret
      exact ⟨rfl, rfl⟩

set_option maxRecDepth 100000 in
theorem rprintable_any (s : ByteArray) (w : World) (hs : s.size ≤ maxLen) :
    Calls Tryz.prog 57 #[.string s] w fun e w' => e = .returned (.bool (prB s.data.toList)) ∧ w = w' := by
  unfold maxLen at hs
  obtain ⟨R, hR⟩ : ∃ R, R = prB s.data.toList := ⟨_, rfl⟩
  rw [← hR]
  have HB : Hid (∀ i (h : i < s.size), prC s[i] = false → R = false) := fun i h h1 => by rw [hR]; exact prB_bad (show i < s.data.toList.length from h) h1
  have HG : Hid ((∀ i (h : i < s.size), prC s[i] = true) → R = true) := fun h => by rw [hR]; exact prB_all h
  clear hR
  go_enter Tryz.func57, Tryz.ntmps57
  go_wp2_with fail
  go_loop [3] (fun iv => ∃ i : Nat, iv = .int .i64 i ∧ i ≤ s.size ∧ Hid (∀ j (h : j < s.size), j < i → prC s[j] = true)) (fun iv => s.size - (intOf iv).toNat)
  case atStart => exact ⟨0, rfl, Nat.zero_le _, fun j h h' => absurd h' (Nat.not_lt_zero _)⟩
  case round =>
    obtain ⟨i, rfl, hi, HP⟩ := hrel
    by_cases hlt : i < s.size
    · by_cases hp : prC s[i] = true
      · have hp' := hp
        unfold prC at hp'
        rw [Bool.and_eq_true, decide_eq_true_eq, decide_eq_true_eq] at hp'
        obtain ⟨p1, p2⟩ := hp'
        have HP2 : Hid (∀ j (h : j < s.size), j < i + 1 → prC s[j] = true) := by
          intro j h h'
          by_cases e : j = i
          · subst e; exact hp
          · exact HP.out j h (by omega)
        have q1 : ¬ ((s[i].toNat : Int) < 32) := by omega
        have q2 : ¬ ((126 : Int) < (s[i].toNat : Int)) := by omega
        clear hp
        clear HP
        go_wp2_with fail
        go_round
        case rel => exact ⟨i + 1, by go_num, by omega, HP2⟩
        case measure => simp [intOf]; omega
      · have hf := HB.out i hlt (Bool.eq_false_iff.2 hp)
        subst hf
        have hp' : ¬ (32 ≤ s[i].toNat ∧ s[i].toNat ≤ 126) := by
          intro h
          apply hp
          unfold prC
          rw [Bool.and_eq_true, decide_eq_true_eq, decide_eq_true_eq]
          exact h
        by_cases q1 : ((s[i].toNat : Int) < 32)
        · clear hp' hp HB HG HP
          go_wp2_with fail
          go_ret
          exact ⟨rfl, rfl⟩
        · have q2 : ((126 : Int) < (s[i].toNat : Int)) := by omega
          clear hp' hp HB HG HP
          go_wp2_with fail
          go_ret
          exact ⟨rfl, rfl⟩
    · have ht := HG.out (fun j h => HP.out j h (by omega))
      subst ht
      clear HB HG HP
      go_wp2_with fail
      go_ret
      exact ⟨rfl, rfl⟩

/-- what check answers -/
def checkZ (i t : Int) (s : ByteArray) : Int :=
  if t < 1 ∨ 99999 < t ∨ i < 0 ∨ t ≤ i then 2 else if s.size ≠ 64 ∨ prB s.data.toList = false then 1 else 0

set_option maxRecDepth 100000 in
theorem pcheck_any (a : Int) (i t : Int) (s : ByteArray) (w : World) (hs : s.size ≤ maxLen) :
    Calls Tryz.prog 47 #[.agg #[.int .u32 a, .int .i64 i, .int .i64 t, .string s]] w fun e w' => e = .returned (.int .i64 (checkZ i t s)) ∧ Ext w w' := by
  by_cases h1 : t < 1
  · rw [show checkZ i t s = 2 by unfold checkZ; rw [if_pos (Or.inl h1)]]
    go_enter Tryz.func47, Tryz.ntmps47
    go_wp2_with fail
    go_ret
    exact ⟨rfl, by go_grown⟩
  by_cases h2 : 99999 < t
  · rw [show checkZ i t s = 2 by unfold checkZ; rw [if_pos (Or.inr (Or.inl h2))]]
    go_enter Tryz.func47, Tryz.ntmps47
    go_wp2_with fail
    go_ret
    exact ⟨rfl, by go_grown⟩
  by_cases h3 : i < 0
  · rw [show checkZ i t s = 2 by unfold checkZ; rw [if_pos (Or.inr (Or.inr (Or.inl h3)))]]
    go_enter Tryz.func47, Tryz.ntmps47
    go_wp2_with fail
    go_ret
    exact ⟨rfl, by go_grown⟩
  by_cases h4 : t ≤ i
  · rw [show checkZ i t s = 2 by unfold checkZ; rw [if_pos (Or.inr (Or.inr (Or.inr h4)))]]
    go_enter Tryz.func47, Tryz.ntmps47
    go_wp2_with fail
    go_ret
    exact ⟨rfl, by go_grown⟩
  have e : checkZ i t s = if s.size ≠ 64 ∨ prB s.data.toList = false then 1 else 0 := by unfold checkZ; rw [if_neg (by omega)]
  rw [e]
  clear e
  by_cases h5 : s.size = 64
  · have HP := Lib.hid (fun W => printable_any s W hs)
    by_cases h6 : prB s.data.toList = false
    · rw [if_pos (Or.inr h6)]
      rw [h6] at HP
      clear h6
      go_enter Tryz.func47, Tryz.ntmps47
      go_wp2_with fail
      refine (HP.out _).mono ?_
      rintro e w' ⟨rfl, rfl⟩
      go_wp2_with fail
      go_ret
      exact ⟨rfl, by go_grown⟩
    · rw [if_neg (fun h => h.elim (fun h => h h5) h6)]
      rw [Bool.not_eq_false] at h6
      rw [h6] at HP
      clear h6
      go_enter Tryz.func47, Tryz.ntmps47
      go_wp2_with fail
      refine (HP.out _).mono ?_
      rintro e w' ⟨rfl, rfl⟩
      go_wp2_with fail
      go_ret
      exact ⟨rfl, by go_grown⟩
  · rw [if_pos (Or.inl h5)]
    have h5' : ¬ ((s.size : Int) = 64) := by omega
    go_enter Tryz.func47, Tryz.ntmps47
    go_wp2_with fail
    go_ret
    exact ⟨rfl, by go_grown⟩

set_option maxRecDepth 100000 in
theorem rpcheck_any (a : Int) (i t : Int) (s : ByteArray) (w : World) (hs : s.size ≤ maxLen) :
    Calls Tryz.prog 58 #[.agg #[.int .u32 a, .int .i64 i, .int .i64 t, .string s]] w fun e w' => e = .returned (.int .i64 (checkZ i t s)) ∧ Ext w w' := by
  by_cases h1 : t < 1
  · rw [show checkZ i t s = 2 by unfold checkZ; rw [if_pos (Or.inl h1)]]
    go_enter Tryz.func58, Tryz.ntmps58
    go_wp2_with fail
    go_ret
    exact ⟨rfl, by go_grown⟩
  by_cases h2 : 99999 < t
  · rw [show checkZ i t s = 2 by unfold checkZ; rw [if_pos (Or.inr (Or.inl h2))]]
    go_enter Tryz.func58, Tryz.ntmps58
    go_wp2_with fail
    go_ret
    exact ⟨rfl, by go_grown⟩
  by_cases h3 : i < 0
  · rw [show checkZ i t s = 2 by unfold checkZ; rw [if_pos (Or.inr (Or.inr (Or.inl h3)))]]
    go_enter Tryz.func58, Tryz.ntmps58
    go_wp2_with fail
    go_ret
    exact ⟨rfl, by go_grown⟩
  by_cases h4 : t ≤ i
  · rw [show checkZ i t s = 2 by unfold checkZ; rw [if_pos (Or.inr (Or.inr (Or.inr h4)))]]
    go_enter Tryz.func58, Tryz.ntmps58
    go_wp2_with fail
    go_ret
    exact ⟨rfl, by go_grown⟩
  have e : checkZ i t s = if s.size ≠ 64 ∨ prB s.data.toList = false then 1 else 0 := by unfold checkZ; rw [if_neg (by omega)]
  rw [e]
  clear e
  by_cases h5 : s.size = 64
  · have HP := Lib.hid (fun W => rprintable_any s W hs)
    by_cases h6 : prB s.data.toList = false
    · rw [if_pos (Or.inr h6)]
      rw [h6] at HP
      clear h6
      go_enter Tryz.func58, Tryz.ntmps58
      go_wp2_with fail
      refine (HP.out _).mono ?_
      rintro e w' ⟨rfl, rfl⟩
      go_wp2_with fail
      go_ret
      exact ⟨rfl, by go_grown⟩
    · rw [if_neg (fun h => h.elim (fun h => h h5) h6)]
      rw [Bool.not_eq_false] at h6
      rw [h6] at HP
      clear h6
      go_enter Tryz.func58, Tryz.ntmps58
      go_wp2_with fail
      refine (HP.out _).mono ?_
      rintro e w' ⟨rfl, rfl⟩
      go_wp2_with fail
      go_ret
      exact ⟨rfl, by go_grown⟩
  · rw [if_pos (Or.inl h5)]
    have h5' : ¬ ((s.size : Int) = 64) := by omega
    go_enter Tryz.func58, Tryz.ntmps58
    go_wp2_with fail
    go_ret
    exact ⟨rfl, by go_grown⟩

end Go.Proofs.YtjmglbppmolipaaGreatDoor
