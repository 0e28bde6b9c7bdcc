/- The contracts of the reference of layer 18, first part: signs, names, code, definitions, references, six digits, join. -/
import Derived.Test.YtimegcnpembhkaaDoorAsmJoin
import Derived.Test.YtimegcnpembhkaaDoorAsmDis
import Derived.Laws.BytesArg
import Derived.WalkSpells
namespace Go.Proofs.YtimegcnpembhkaaDoor
open Go.RowKit
open Go.Lib hiding intOf
set_option linter.unusedVariables false

theorem rDigit_any (c : UInt8) (w : World) :
    Calls Tryd.prog 38 #[.int .u8 (c.toNat : Int)] w fun e w' => e = .returned (.bool (isDig c)) ∧ w = w' := by
  have e : isDig c = (decide (48 ≤ ((c.toNat : Nat) : Int)) && decide (((c.toNat : Nat) : Int) ≤ 57)) := by
    unfold isDig
    rw [Bool.eq_iff_iff]; simp; omega
  rw [e]
  by_cases h1 : 48 ≤ ((c.toNat : Nat) : Int)
  · go_enter Tryd.func38, Tryd.ntmps38
    go_wp2_with fail
    go_ret
    exact ⟨ret_bool (by simp [h1]), rfl⟩
  · go_enter Tryd.func38, Tryd.ntmps38
    go_wp2_with fail
    go_ret
    exact ⟨ret_bool (by rw [decide_eq_false (by omega)]; rfl), rfl⟩

def sgB : ByteArray := ⟨#[43, 45, 42, 47, 37, 94, 60, 64, 33, 63, 58, 59, 44, 46, 36]⟩
theorem sgn_iff (c : UInt8) : isSgn c = true ↔ ∃ k, ∃ h : k < sgB.size, sgB[k] = c := by
  have e : isSgn c = sgB.data.toList.contains c := rfl
  rw [e, List.contains_iff_mem, List.mem_iff_getElem]
  constructor
  · rintro ⟨k, h, e⟩; exact ⟨k, h, e⟩
  · rintro ⟨k, h, e⟩; exact ⟨k, h, e⟩

theorem rSign_any (c : UInt8) (w : World) :
    Calls Tryd.prog 39 #[.int .u8 (c.toNat : Int)] w fun e w' => e = .returned (.bool (isSgn c)) ∧ w = w' := by
  obtain ⟨r, hr⟩ : ∃ r, r = isSgn c := ⟨_, rfl⟩
  rw [← hr]
  have HR := Lib.hid hr
  clear hr
  go_enter Tryd.func39, Tryd.ntmps39
  go_wp2_with fail
  go_loop [3] (fun i => ∃ k : Nat, k ≤ 15 ∧ i = .int .i64 k ∧ ∀ j, j < k → ∀ h : j < sgB.size, sgB[j] ≠ c) (fun i => 15 - (intOf i).toNat)
  case atStart => exact ⟨0, Nat.zero_le _, rfl, fun j hj => absurd hj (Nat.not_lt_zero _)⟩
  case round =>
    obtain ⟨k, hk, rfl, hno⟩ := hrel
    have HN := Lib.hid hno
    clear hno
    by_cases hlt : k < 15
    · have hks : k < sgB.size := hlt
      by_cases hc : sgB[k] = c
      · have hfin : Hid (r = true) := by
          show _ = _
          rw [HR.out, sgn_iff]
          exact ⟨k, hks, hc⟩
        have hq : ((((⟨#[43, 45, 42, 47, 37, 94, 60, 64, 33, 63, 58, 59, 44, 46, 36]⟩ : ByteArray)[k]'hks).toNat : Int) == (c.toNat : Int)) = true := by
          have : (⟨#[43, 45, 42, 47, 37, 94, 60, 64, 33, 63, 58, 59, 44, 46, 36]⟩ : ByteArray)[k]'hks = c := hc
          rw [this]; simp
        clear hc
        go_wp2_with fail
        go_ret
        exact ⟨ret_bool hfin.out.symm, rfl⟩
      · have hnx : Hid (∀ j, j < k + 1 → ∀ h : j < sgB.size, sgB[j] ≠ c) := by
          intro j hj h
          by_cases h1 : j < k
          · exact HN.out j h1 h
          · obtain rfl : j = k := by omega
            exact hc
        have hq : ((((⟨#[43, 45, 42, 47, 37, 94, 60, 64, 33, 63, 58, 59, 44, 46, 36]⟩ : ByteArray)[k]'hks).toNat : Int) == (c.toNat : Int)) = false := by
          rw [beq_eq_false_iff_ne]
          intro e
          have : (⟨#[43, 45, 42, 47, 37, 94, 60, 64, 33, 63, 58, 59, 44, 46, 36]⟩ : ByteArray)[k]'hks = c := UInt8.toNat_inj.1 (by omega)
          exact hc this
        clear hc
        go_wp2_with fail
        go_round
        case rel => exact ⟨k + 1, by omega, by go_num, hnx.out⟩
        case measure => simp [intOf]; omega
    · obtain rfl : k = 15 := by omega
      have hfin : Hid (r = false) := by
        show _ = _
        rw [HR.out]
        cases h : isSgn c with
        | false => rfl
        | true =>
          obtain ⟨j, hj, e⟩ := (sgn_iff c).1 h
          exact absurd e (HN.out j hj hj)
      go_wp2_with fail
      go_ret
      exact ⟨ret_bool hfin.out.symm, rfl⟩

/-- a name so far -/
def nmOk (l : Bytes) : Bool := match l with
  | [] => true
  | c :: _ => isLow c && l.all isNm
theorem nmOk_take (l : Bytes) (k : Nat) (h : nmOk l = true) : nmOk (l.take k) = true := by
  cases l with
  | nil => simp [nmOk]
  | cons c r =>
    cases k with
    | zero => rfl
    | succ k =>
      unfold nmOk at h
      rw [Bool.and_eq_true] at h
      rw [List.take_succ_cons]
      unfold nmOk
      rw [Bool.and_eq_true]
      refine ⟨h.1, List.all_eq_true.2 fun x hx => List.all_eq_true.1 h.2 x ?_⟩
      rcases List.mem_cons.1 hx with rfl | hx
      · simp
      · exact List.mem_cons_of_mem _ (List.mem_of_mem_take hx)
theorem nmOk_snoc (l : Bytes) (c : UInt8) (h : nmOk l = true) : nmOk (l ++ [c]) = if l = [] then isLow c else isNm c := by
  cases l with
  | nil =>
    unfold nmOk
    simp only [List.nil_append, List.all_cons, List.all_nil, Bool.and_true, if_pos]
    unfold isNm
    cases isLow c <;> rfl
  | cons x r =>
    unfold nmOk at h
    rw [Bool.and_eq_true] at h
    rw [if_neg (by simp), List.cons_append]
    show (isLow x && (x :: (r ++ [c])).all isNm) = isNm c
    rw [h.1, ← List.cons_append, List.all_append, h.2]
    simp
theorem nameB_eq (l : Bytes) : nameB l = (nmOk l && (decide (l ≠ []) && decide (l.length ≤ 40))) := by
  cases l with
  | nil => rfl
  | cons c r =>
    unfold nameB nmOk
    rw [Bool.eq_iff_iff]
    simp only [Bool.and_eq_true, decide_eq_true_iff]
    simp only [ne_eq, reduceCtorEq, not_false_eq_true, true_and]
    constructor
    · rintro ⟨⟨h1, h2⟩, h3⟩; exact ⟨⟨h2, h3⟩, h1⟩
    · rintro ⟨⟨h2, h3⟩, h1⟩; exact ⟨⟨h1, h2⟩, h3⟩

theorem low_int (c : UInt8) : isLow c = (decide (97 ≤ ((c.toNat : Nat) : Int)) && decide (((c.toNat : Nat) : Int) ≤ 122)) := by
  unfold isLow
  rw [Bool.eq_iff_iff]; simp; omega

theorem take_snoc (s : ByteArray) (k : Nat) (h : k < s.size) : s.data.toList.take (k + 1) = s.data.toList.take k ++ [s[k]] := by
  rw [List.take_succ_eq_append_getElem (by simpa using h)]; rfl

set_option maxHeartbeats 1000000 in
theorem rName_any (s : ByteArray) (w : World) (hs : s.size ≤ maxLen) :
    Calls Tryd.prog 90 #[.string s] w fun e w' => e = .returned (.bool (nameB s.data.toList)) ∧ w = w' := by
  unfold maxLen at hs
  have hne := nameB_eq s.data.toList
  have hsl : s.data.toList.length = s.size := rfl
  rw [hsl] at hne
  obtain ⟨r, hr⟩ : ∃ r, r = nameB s.data.toList := ⟨_, rfl⟩
  rw [← hr] at hne ⊢
  have HR := Lib.hid hne
  clear hne hr
  go_enter Tryd.func90, Tryd.ntmps90
  go_wp2_with fail
  go_loop [3, 4] (fun i l => ∃ k : Nat, k ≤ s.size ∧ i = .int .i64 k ∧ nmOk (s.data.toList.take k) = true) (fun i _ => s.size - (intOf i).toNat)
  case atStart => exact ⟨0, Nat.zero_le _, rfl, rfl⟩
  case round =>
    obtain ⟨k, hk, rfl, hok⟩ := hrel
    have HK := Lib.hid hok
    clear hok
    by_cases hlt : k < s.size
    · have hst : Hid (nmOk (s.data.toList.take (k + 1)) = if s.data.toList.take k = [] then isLow s[k] else isNm s[k]) := by
        show _ = _
        rw [take_snoc s k hlt, nmOk_snoc _ _ HK.out]
      have hstop : Hid (nmOk (s.data.toList.take (k + 1)) = false → r = false) := by
        intro h
        rw [HR.out]
        cases h2 : nmOk s.data.toList with
        | false => rfl
        | true => rw [nmOk_take _ _ h2] at h; cases h
      have hnil : Hid (s.data.toList.take k = [] ↔ k = 0) := by
        constructor
        · intro h
          have h2 := congrArg List.length h
          rw [List.length_take, hsl] at h2
          simp only [List.length_nil] at h2
          omega
        · rintro rfl; rfl
      by_cases z1 : 97 ≤ ((s[k].toNat : Nat) : Int) ∧ ((s[k].toNat : Nat) : Int) ≤ 122
      · have hnx : Hid (nmOk (s.data.toList.take (k + 1)) = true) := by
          show _ = _
          have : isLow s[k] = true := by rw [low_int, decide_eq_true z1.1, decide_eq_true z1.2]; rfl
          rw [hst.out]
          unfold isNm
          rw [this]
          split <;> rfl
        obtain ⟨z2, z3⟩ := z1
        go_wp2_with fail
        go_round
        case rel => exact ⟨k + 1, by omega, by go_num, hnx.out⟩
        case measure => simp [intOf]; omega
      · have hlow : isLow s[k] = false := by
          rw [low_int, Bool.and_eq_false_iff, decide_eq_false_iff_not, decide_eq_false_iff_not]
          omega
        by_cases hk0 : k = 0
        · subst hk0
          have hfin : Hid (r = false) := hstop.out (by rw [hst.out, if_pos (hnil.out.2 rfl), hlow])
          clear hlow
          by_cases z2 : 97 ≤ ((s[0].toNat : Nat) : Int)
          · have z3 : ¬ ((s[0].toNat : Nat) : Int) ≤ 122 := by omega
            clear z1
            go_wp2_with fail
            go_ret
            exact ⟨ret_bool hfin.out.symm, rfl⟩
          · clear z1
            go_wp2_with fail
            go_ret
            exact ⟨ret_bool hfin.out.symm, rfl⟩
        · have hk1 : 0 < k := by omega
          have hst2 : Hid (nmOk (s.data.toList.take (k + 1)) = (s[k] == 95 || isDig s[k])) := by
            show _ = _
            rw [hst.out, if_neg (fun h => hk0 (hnil.out.1 h))]
            unfold isNm
            rw [hlow]; rfl
          have hkz : ((k : Int) == 0) = false := by rw [beq_eq_false_iff_ne]; omega
          have hD := fun W => rDigit_any s[k] W
          clear hlow hk0
          cases hd : isDig s[k] with
          | true =>
            have hnx : Hid (nmOk (s.data.toList.take (k + 1)) = true) := by show _ = _; rw [hst2.out, hd, Bool.or_true]
            rw [hd] at hD
            have D := Lib.hid hD
            clear hD hd
            by_cases z2 : 97 ≤ ((s[k].toNat : Nat) : Int)
            · have z3 : ¬ ((s[k].toNat : Nat) : Int) ≤ 122 := by omega
              clear z1
              go_wp2_with fail
              refine (D.out _).mono ?_
              rintro e w1 ⟨rfl, rfl⟩
              go_wp2_with fail
              go_round
              case rel => exact ⟨k + 1, by omega, by go_num, hnx.out⟩
              case measure => simp [intOf]; omega
            · clear z1
              go_wp2_with fail
              refine (D.out _).mono ?_
              rintro e w1 ⟨rfl, rfl⟩
              go_wp2_with fail
              go_round
              case rel => exact ⟨k + 1, by omega, by go_num, hnx.out⟩
              case measure => simp [intOf]; omega
          | false =>
            rw [hd] at hD
            have D := Lib.hid hD
            by_cases h95 : s[k] = 95
            · have hnx : Hid (nmOk (s.data.toList.take (k + 1)) = true) := by show _ = _; rw [hst2.out, h95]; rfl
              have hq : (((s[k].toNat : Nat) : Int) != 95) = false := by rw [h95]; rfl
              clear hD hd h95
              by_cases z2 : 97 ≤ ((s[k].toNat : Nat) : Int)
              · have z3 : ¬ ((s[k].toNat : Nat) : Int) ≤ 122 := by omega
                clear z1
                go_wp2_with fail
                refine (D.out _).mono ?_
                rintro e w1 ⟨rfl, rfl⟩
                go_wp2_with fail
                go_round
                case rel => exact ⟨k + 1, by omega, by go_num, hnx.out⟩
                case measure => simp [intOf]; omega
              · clear z1
                go_wp2_with fail
                refine (D.out _).mono ?_
                rintro e w1 ⟨rfl, rfl⟩
                go_wp2_with fail
                go_round
                case rel => exact ⟨k + 1, by omega, by go_num, hnx.out⟩
                case measure => simp [intOf]; omega
            · have hfin : Hid (r = false) := hstop.out (by rw [hst2.out, hd, Bool.or_false, beq_eq_false_iff_ne]; exact h95)
              have hq : (((s[k].toNat : Nat) : Int) != 95) = true := u8_ne s[k] 95 h95
              clear hD hd h95
              by_cases z2 : 97 ≤ ((s[k].toNat : Nat) : Int)
              · have z3 : ¬ ((s[k].toNat : Nat) : Int) ≤ 122 := by omega
                clear z1
                go_wp2_with fail
                refine (D.out _).mono ?_
                rintro e w1 ⟨rfl, rfl⟩
                go_wp2_with fail
                go_ret
                exact ⟨ret_bool hfin.out.symm, rfl⟩
              · clear z1
                go_wp2_with fail
                refine (D.out _).mono ?_
                rintro e w1 ⟨rfl, rfl⟩
                go_wp2_with fail
                go_ret
                exact ⟨ret_bool hfin.out.symm, rfl⟩
    · obtain rfl : k = s.size := by omega
      have hok2 : Hid (nmOk s.data.toList = true) := by
        have := HK.out
        rw [List.take_of_length_le (show s.data.toList.length ≤ s.size from Nat.le_refl _)] at this
        exact this
      by_cases h0 : s.size = 0
      · have h1 := empty_of_size h0
        have hfin : Hid (r = false) := by
          show _ = _
          rw [HR.out, List.eq_nil_of_length_eq_zero (show s.data.toList.length = 0 from h0)]; rfl
        clear h0
        go_wp2_with fail
        go_ret
        exact ⟨ret_bool (by rw [hfin.out]), rfl⟩
      · have h1 : (s.toList == []) = false := by simpa using ne_of_size h0
        have h1' := ne_of_size h0
        have hfin : Hid (r = decide ((s.size : Int) ≤ 40)) := by
          show _ = _
          have hd : decide (s.data.toList ≠ []) = true := by
            rw [decide_eq_true_iff]
            intro e
            exact h0 (by have : s.size = s.data.toList.length := rfl; rw [this, e]; rfl)
          rw [HR.out, hok2.out, hd]
          rw [Bool.eq_iff_iff]; simp; omega
        clear h0
        go_wp2_with fail
        go_ret
        exact ⟨ret_bool (by rw [hfin.out]), rfl⟩
end Go.Proofs.YtimegcnpembhkaaDoor
