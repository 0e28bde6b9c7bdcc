/- Contract of syncmark.IsPlain. (Layer 27) -/
import Derived.Test.YtjmglbppmolipaaGreatDoorPfDec3
namespace Go.Proofs.YtjmglbppmolipaaGreatDoor
open Go.RowKit
open Go.Lib hiding intOf
set_option linter.unusedVariables false

/-- a plain mark stands at place i -/
def isPl (l : List UInt8) (i : Nat) : Bool := decide (i + 16 ≤ l.length) && decide ((l.drop i).take 16 = plainM)

theorem within_any (s : ByteArray) (i : Nat) (w : World) (hs : s.size ≤ maxLen) (hi : i ≤ maxLen) :
    Calls Tryz.prog 66 #[.string s, .int .i64 i] w fun e w' => e = .returned (.bool (decide (i + 16 ≤ s.size))) ∧ w = w' := by
  unfold maxLen at hs hi
  by_cases h1 : i + 16 ≤ s.size
  · rw [decide_eq_true h1]
    go_enter Tryz.func66, Tryz.ntmps66
    go_wp2_with fail
    go_ret
    exact ⟨ret_bool (by first | rfl | exact decide_eq_true (by omega) | exact he), rfl⟩
  · rw [decide_eq_false h1]
    by_cases h2 : i ≤ s.size
    · go_enter Tryz.func66, Tryz.ntmps66
      go_wp2_with fail
      go_ret
      exact ⟨ret_bool (decide_eq_false (by omega)), rfl⟩
    · go_enter Tryz.func66, Tryz.ntmps66
      go_wp2_with fail
      go_ret
      exact ⟨rfl, rfl⟩

theorem isPlain_any (s : ByteArray) (i : Nat) (w : World) (hs : s.size ≤ maxLen) (hi : i ≤ maxLen) :
    Calls Tryz.prog 40 #[.string s, .int .i64 i] w fun e w' => e = .returned (.bool (isPl s.data.toList i)) ∧ w = w' := by
  have hW := fun W => within_any s i W hs hi
  unfold maxLen at hs hi
  unfold isPl
  rw [show s.data.toList.length = s.size from rfl]
  by_cases h1 : i + 16 ≤ s.size
  · rw [decide_eq_true h1] at hW ⊢
    obtain ⟨b, hb⟩ : ∃ b, b = decide ((s.data.toList.drop i).take 16 = plainM) := ⟨_, rfl⟩
    have he : ((s.extract i (i + 16)).toList == ([48, 48, 48, 48, 48, 49, 49, 48, 48, 49, 48, 49, 48, 49, 49, 49] : List UInt8)) = b := by
      rw [hb, ByteArray.toList_eq, ext_BA, BA_data, Nat.add_sub_cancel_left, Bool.eq_iff_iff, beq_iff_eq, decide_eq_true_eq]
    rw [← hb]
    have HW := Lib.hid hW
    clear hW hb
    rw [Bool.true_and]
    go_enter Tryz.func40, Tryz.ntmps40
    go_wp2_with fail
    refine (HW.out _).mono ?_
    rintro e w1 ⟨rfl, rfl⟩
    go_wp2_with fail
    go_ret
    exact ⟨ret_bool (by first | rfl | exact he), rfl⟩
  · rw [decide_eq_false h1] at hW ⊢
    have HW := Lib.hid hW
    clear hW
    rw [Bool.false_and]
    go_enter Tryz.func40, Tryz.ntmps40
    go_wp2_with fail
    refine (HW.out _).mono ?_
    rintro e w1 ⟨rfl, rfl⟩
    go_wp2_with fail
    go_ret
    exact ⟨rfl, rfl⟩

end Go.Proofs.YtjmglbppmolipaaGreatDoor
