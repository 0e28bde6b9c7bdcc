/- Contracts of the reference's find, Load and SameInts. (Layer 27) -/
import Derived.Test.YtlkiaeelnbjchaaDoorLdRef2
import Derived.Test.YtlkiaeelnbjchaaDoorLdPlain
namespace Go.Proofs.YtlkiaeelnbjchaaDoor
open Go.RowKit
open Go.Lib hiding intOf
set_option linter.unusedVariables false

theorem findA_cons (x : Pc) (L : List Pc) (k : Int) : findA (x :: L) k = if x.index = k then some x.text else findA L k := by
  unfold findA
  by_cases h : x.index = k
  · rw [List.find?_cons_of_pos (by simpa using h), if_pos h]; rfl
  · rw [List.find?_cons_of_neg (by simpa using h), if_neg h]
set_option maxRecDepth 100000 in
theorem rsameInts_any (A B : Option Addr) (n c d : Nat) (l : List Nat) (w : World) (hl : Lst w A n c (intsN l)) (hk : Lst w B n d (intsN l)) :
    Calls Tryd.prog 7 #[.slice A n c, .slice B n d] w fun e w' => e = .returned (.bool true) ∧ Ext w w' := by
  have hlen := hl.len
  have hroom := hl.room
  have hmax := hl.max
  have hroom2 := hk.room
  have hmax2 := hk.max
  unfold maxLen at hmax hmax2
  have HL := Lib.hid hlen
  clear hlen
  go_enter Tryd.func7, Tryd.ntmps7
  go_wp2_with fail
  go_loopw [5] (fun i wr => ∃ j : Nat, j ≤ n ∧ i = .int .i64 j ∧ Ext w wr) (fun i _ => n - (intOf i).toNat)
  case atStart => exact ⟨0, Nat.zero_le _, rfl, Ext.refl _⟩
  case round =>
    obtain ⟨j, hj, rfl, hx⟩ := hrel
    by_cases hlt : j < n
    · obtain ⟨b1, o1, rfl, hc1⟩ := hl.at_ (by omega)
      obtain ⟨b2, o2, rfl, hc2⟩ := hk.at_ (by omega)
      have hj1 : j < (intsN l).length := by have := HL.out; omega
      have e1 := hx.cell (hc1 j hj1)
      have e2 := hx.cell (hc2 j hj1)
      have hv : (intsN l)[j] = .int .i64 ((l[j]'(by unfold intsN at hj1; rwa [List.length_map] at hj1) : Nat) : Int) := by simp [intsN]
      rw [hv] at e1 e2
      generalize (l[j]'(by unfold intsN at hj1; rwa [List.length_map] at hj1)) = q at *
      have hqq : ((q : Int) != (q : Int)) = false := by simp
      clear hc1 hc2 hv
      go_wp2_with fail
      go_quiet (fail)
      go_wp2_with fail
      go_roundw
      case rel => exact ⟨j + 1, by omega, by go_num, hx.drewN _⟩
      case measure => simp [intOf]; omega
    · obtain rfl : j = n := by omega
      go_wp2_with fail
      go_ret
      exact ⟨rfl, hx⟩

theorem str_eq2 (x y : ByteArray) : (x.toList == y.toList) = decide (x = y) := by
  rw [Bool.eq_iff_iff, decide_eq_true_iff, beq_iff_eq]
  constructor
  · intro h
    exact bytes_inj (by rw [← ByteArray.toList_eq, ← ByteArray.toList_eq, h])
  · rintro rfl; rfl

end Go.Proofs.YtlkiaeelnbjchaaDoor
