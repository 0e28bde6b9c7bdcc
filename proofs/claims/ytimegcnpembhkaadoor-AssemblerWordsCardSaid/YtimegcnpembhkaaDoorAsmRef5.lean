/- The contracts of the reference of layer 18, fifth part: Disassemble. -/
import Derived.Test.YtimegcnpembhkaaDoorAsmRef2
import Derived.Test.YtimegcnpembhkaaDoorAsmDis
namespace Go.Proofs.YtimegcnpembhkaaDoor
open Go.RowKit
open Go.Lib hiding intOf
set_option linter.unusedVariables false

/-- the byte before a place -/
def prevB (s : Bytes) (k : Nat) : UInt8 := if k = 0 then 32 else (s[k - 1]?).getD 32

theorem beq_t (b c : UInt8) (h : b = c) : (((b.toNat : Nat) : Int) == ((c.toNat : Nat) : Int)) = true := by rw [h]; simp
theorem beq_f (b c : UInt8) (h : b ≠ c) : (((b.toNat : Nat) : Int) == ((c.toNat : Nat) : Int)) = false := by
  rw [beq_eq_false_iff_ne]
  intro e
  exact h (UInt8.toNat_inj.1 (by omega))
theorem ext1 (s : ByteArray) (k : Nat) (h : k < s.size) : s.extract k (k + 1) = ⟨#[s[k]]⟩ := by
  refine bytes_inj ?_
  have e : s.data.toList.drop k = s[k] :: s.data.toList.drop (k + 1) := drop_get s k h
  simp only [ByteArray.data_extract, Array.toList_extract, List.extract_eq_take_drop]
  rw [e, show k + 1 - k = 1 by omega]
  rfl

set_option maxHeartbeats 4000000 in
set_option maxRecDepth 100000 in
theorem rDis_any (s : ByteArray) (w : World) (hs : s.size < 1000000000) :
    Calls Tryd.prog 17 #[.string s] w fun e w' => e = .returned (.tuple #[.string (BA (disA s.data.toList).1), .int .i64 (disA s.data.toList).2]) ∧ w = w' := by
  obtain ⟨R, hR⟩ : ∃ R, R = disA s.data.toList := ⟨_, rfl⟩
  rw [← hR]
  have HR := Lib.hid hR
  clear hR
  go_enter Tryd.func17, Tryd.ntmps17
  go_wp2_with fail
  go_loop [4, 5, 6] (fun tv i cv => ∃ (k : Nat) (out : ByteArray), k ≤ s.size ∧ i = .int .i64 k ∧ tv = .string out ∧ out.size ≤ 2 * k ∧ (disOk (s.data.toList.take k) = true ∧ disGo 32 [] s.data.toList = disGo (prevB s.data.toList k) out.data.toList (s.data.toList.drop k))) (fun _ i _ => s.size - (intOf i).toNat)
  case atStart => exact ⟨0, ⟨#[]⟩, Nat.zero_le _, rfl, rfl, Nat.zero_le _, rfl, rfl⟩
  case round =>
    obtain ⟨k, out, hk, rfl, rfl, hol, hok, hgo⟩ := hrel
    have HOK := Lib.hid hok
    clear hok
    by_cases hlt : k < s.size
    · rw [drop_get s k hlt] at hgo
      have hpv : Hid (prevB s.data.toList (k + 1) = s[k]) := by
        show _ = _
        unfold prevB
        rw [if_neg (by omega), List.getElem?_eq_getElem (show k + 1 - 1 < s.data.toList.length from hlt)]
        rfl
      have hst : Hid (disOk (s.data.toList.take (k + 1)) = (isCd s[k] || isWs s[k])) := by
        show _ = _
        have h1 := HOK.out
        unfold disOk at h1 ⊢
        rw [take_snoc s k hlt, List.all_append, h1]
        simp
      have hstop : Hid (disOk (s.data.toList.take (k + 1)) = false → R = ([], 3)) := by
        intro h
        rw [HR.out]
        unfold disA
        rw [if_neg]
        intro e
        unfold disOk at h e
        rw [List.all_eq_false] at h
        obtain ⟨x, hx, hx2⟩ := h
        exact hx2 (List.all_eq_true.1 e x (List.mem_of_mem_take hx))
      by_cases c32 : s[k] = 32
      · have t32 : ((((s[k]).toNat : Nat) : Int) == 32) = true := beq_t s[k] 32 c32
        have hnx : Hid (disOk (s.data.toList.take (k + 1)) = true) := by show _ = _; rw [hst.out, c32]; rfl
        have hg2 : Hid (disGo 32 [] s.data.toList = disGo (prevB s.data.toList (k + 1)) out.data.toList (s.data.toList.drop (k + 1))) := by
          show _ = _
          rw [hgo, hpv.out]
          conv => lhs; rw [disGo, if_pos (Or.inl c32)]
        clear hgo c32
        go_wp2_with fail
        go_round
        case rel => exact ⟨k + 1, out, by omega, by go_num, rfl, by omega, hnx.out, hg2.out⟩
        case measure => simp [intOf]; omega
      by_cases c10 : s[k] = 10
      · have t32 : ((((s[k]).toNat : Nat) : Int) == 32) = false := beq_f s[k] 32 c32
        have t10 : ((((s[k]).toNat : Nat) : Int) == 10) = true := beq_t s[k] 10 c10
        have hnx : Hid (disOk (s.data.toList.take (k + 1)) = true) := by show _ = _; rw [hst.out, c10]; rfl
        have hg2 : Hid (disGo 32 [] s.data.toList = disGo (prevB s.data.toList (k + 1)) out.data.toList (s.data.toList.drop (k + 1))) := by
          show _ = _
          rw [hgo, hpv.out]
          conv => lhs; rw [disGo, if_pos (Or.inr c10)]
        clear hgo c32 c10
        go_wp2_with fail
        go_round
        case rel => exact ⟨k + 1, out, by omega, by go_num, rfl, by omega, hnx.out, hg2.out⟩
        case measure => simp [intOf]; omega
      have t32 : ((((s[k]).toNat : Nat) : Int) == 32) = false := beq_f s[k] 32 c32
      have t10 : ((((s[k]).toNat : Nat) : Int) == 10) = false := beq_f s[k] 10 c10
      have hws : isWs s[k] = false := by unfold isWs; simp [c32, c10]
      rw [hws, Bool.or_false] at hst
      have hg2 : disGo 32 [] s.data.toList = disGo (prevB s.data.toList (k + 1)) ((if out.data.toList ≠ [] ∧ ¬ (isDig s[k] = true ∧ isDig (prevB s.data.toList k) = true) then out.data.toList ++ [32] else out.data.toList) ++ [s[k]]) (s.data.toList.drop (k + 1)) := by
        rw [hgo, hpv.out]
        conv => lhs; rw [disGo, if_neg (by simp [c32, c10])]
      have hxt := ext1 s k hlt
      have hD := fun W => rDigit_any s[k] W
      have hS := fun W => rSign_any s[k] W
      have hcd : isCd s[k] = (isSgn s[k] || isDig s[k]) := rfl
      rw [hcd] at hst
      clear hgo c32 c10 hws hcd
      have h1 : out.data.toList = [] ↔ out.size = 0 := by
        constructor
        · intro e; have : out.size = out.data.toList.length := rfl; rw [this, e]; rfl
        · intro e; exact List.eq_nil_of_length_eq_zero e
      cases hd : isDig s[k] with
      | false =>
        have hg3 : disGo 32 [] s.data.toList = disGo (prevB s.data.toList (k + 1)) ((if out.data.toList ≠ [] then out.data.toList ++ [32] else out.data.toList) ++ [s[k]]) (s.data.toList.drop (k + 1)) := by
          rw [hg2, hd]; simp
        rw [hd] at hD
        cases hg : isSgn s[k] with
        | false =>
          have hfin : Hid (R = ([], 3)) := hstop.out (by rw [hst.out, hg, hd]; rfl)
          rw [hg] at hS
          have D := Lib.hid hD
          have S := Lib.hid hS
          clear hD hS hd hg hg2 hg3 h1 hxt hstop hst
          go_wp2_with fail
          refine (D.out _).mono ?_
          rintro e w1 ⟨rfl, rfl⟩
          go_wp2_with fail
          refine (S.out _).mono ?_
          rintro e w1 ⟨rfl, rfl⟩
          go_wp2_with fail
          go_ret2
          exact ⟨by rw [hfin.out]; rfl, rfl⟩
        | true =>
          have hnx : Hid (disOk (s.data.toList.take (k + 1)) = true) := by show _ = _; rw [hst.out, hg]; rfl
          rw [hg] at hS
          have D := Lib.hid hD
          have S := Lib.hid hS
          by_cases h0 : out.size = 0
          · have h2 := empty_of_size h0
            have hg4 : Hid (disGo 32 [] s.data.toList = disGo (prevB s.data.toList (k + 1)) (out ++ ⟨#[s[k]]⟩).data.toList (s.data.toList.drop (k + 1))) := by
              show _ = _
              rw [hg3, h1.2 h0]
              simp [h1.2 h0]
            clear hD hS hd hg hg2 hg3 h1 hstop hst h0
            go_wp2_with fail
            refine (D.out _).mono ?_
            rintro e w1 ⟨rfl, rfl⟩
            go_wp2_with fail
            refine (S.out _).mono ?_
            rintro e w1 ⟨rfl, rfl⟩
            go_wp2_with fail
            go_round
            case rel => exact ⟨k + 1, _, by omega, by go_num, rfl, by rw [ByteArray.size_append]; show _ + 1 ≤ _; omega, hnx.out, hg4.out⟩
            case measure => simp [intOf]; omega
          · have h2 : (out.toList == []) = false := by simpa using ne_of_size h0
            have h2' := ne_of_size h0
            have hg4 : Hid (disGo 32 [] s.data.toList = disGo (prevB s.data.toList (k + 1)) (out ++ ⟨#[32]⟩ ++ ⟨#[s[k]]⟩).data.toList (s.data.toList.drop (k + 1))) := by
              show _ = _
              rw [hg3, if_pos (fun e => h0 (h1.1 e))]
              simp
            have ho1 : 1 ≤ out.size := by omega
            clear hD hS hd hg hg2 hg3 h1 hstop hst h0
            go_wp2_with fail
            refine (D.out _).mono ?_
            rintro e w1 ⟨rfl, rfl⟩
            go_wp2_with fail
            refine (S.out _).mono ?_
            rintro e w1 ⟨rfl, rfl⟩
            go_wp2_with fail
            refine (D.out _).mono ?_
            rintro e w1 ⟨rfl, rfl⟩
            go_wp2_with fail
            go_round
            case rel => exact ⟨k + 1, _, by omega, by go_num, rfl, by rw [ByteArray.size_append, ByteArray.size_append]; show _ + 1 + 1 ≤ _; omega, hnx.out, hg4.out⟩
            case measure => simp [intOf]; omega
      | true =>
        have hnx : Hid (disOk (s.data.toList.take (k + 1)) = true) := by show _ = _; rw [hst.out, hd, Bool.or_true]
        rw [hd] at hD
        have D := Lib.hid hD
        by_cases h0 : out.size = 0
        · have h2 := empty_of_size h0
          have hg4 : Hid (disGo 32 [] s.data.toList = disGo (prevB s.data.toList (k + 1)) (out ++ ⟨#[s[k]]⟩).data.toList (s.data.toList.drop (k + 1))) := by
            show _ = _
            rw [hg2, h1.2 h0]
            simp [h1.2 h0]
          clear hD hS hd hg2 h1 hstop hst h0
          go_wp2_with fail
          refine (D.out _).mono ?_
          rintro e w1 ⟨rfl, rfl⟩
          go_wp2_with fail
          go_round
          case rel => exact ⟨k + 1, _, by omega, by go_num, rfl, by rw [ByteArray.size_append]; show _ + 1 ≤ _; omega, hnx.out, hg4.out⟩
          case measure => simp [intOf]; omega
        · have h2 : (out.toList == []) = false := by simpa using ne_of_size h0
          have h2' := ne_of_size h0
          have ho1 : 1 ≤ out.size := by omega
          have hk0 : 0 < k := by omega
          have hpk : prevB s.data.toList k = s[k - 1] := by
            unfold prevB
            rw [if_neg (by omega), List.getElem?_eq_getElem (show k - 1 < s.data.toList.length by have : s.data.toList.length = s.size := rfl; omega)]
            rfl
          have hD2 := fun W => rDigit_any s[k - 1] W
          cases hd2 : isDig s[k - 1] with
          | true =>
            have hg4 : Hid (disGo 32 [] s.data.toList = disGo (prevB s.data.toList (k + 1)) (out ++ ⟨#[s[k]]⟩).data.toList (s.data.toList.drop (k + 1))) := by
              show _ = _
              rw [hg2, hpk, hd, hd2, if_neg (by simp)]
              simp
            rw [hd2] at hD2
            have D2 := Lib.hid hD2
            clear hD hS hd hg2 h1 hstop hst h0 hD2 hd2 hpk
            go_wp2_with fail
            refine (D.out _).mono ?_
            rintro e w1 ⟨rfl, rfl⟩
            go_wp2_with fail
            refine (D.out _).mono ?_
            rintro e w1 ⟨rfl, rfl⟩
            go_wp2_with fail
            refine (D2.out _).mono ?_
            rintro e w1 ⟨rfl, rfl⟩
            go_wp2_with fail
            go_round
            case rel => exact ⟨k + 1, _, by omega, by go_num, rfl, by rw [ByteArray.size_append]; show _ + 1 ≤ _; omega, hnx.out, hg4.out⟩
            case measure => simp [intOf]; omega
          | false =>
            have hg4 : Hid (disGo 32 [] s.data.toList = disGo (prevB s.data.toList (k + 1)) (out ++ ⟨#[32]⟩ ++ ⟨#[s[k]]⟩).data.toList (s.data.toList.drop (k + 1))) := by
              show _ = _
              rw [hg2, hpk, hd, hd2, if_pos ⟨fun e => h0 (h1.1 e), by simp⟩]
              simp
            rw [hd2] at hD2
            have D2 := Lib.hid hD2
            clear hD hS hd hg2 h1 hstop hst h0 hD2 hd2 hpk
            go_wp2_with fail
            refine (D.out _).mono ?_
            rintro e w1 ⟨rfl, rfl⟩
            go_wp2_with fail
            refine (D.out _).mono ?_
            rintro e w1 ⟨rfl, rfl⟩
            go_wp2_with fail
            refine (D2.out _).mono ?_
            rintro e w1 ⟨rfl, rfl⟩
            go_wp2_with fail
            go_round
            case rel => exact ⟨k + 1, _, by omega, by go_num, rfl, by rw [ByteArray.size_append, ByteArray.size_append]; show _ + 1 + 1 ≤ _; omega, hnx.out, hg4.out⟩
            case measure => simp [intOf]; omega
    · obtain rfl : k = s.size := by omega
      have hfin : Hid (R = (out.data.toList, 0)) := by
        show _ = _
        have h1 := HOK.out
        rw [List.take_of_length_le (show s.data.toList.length ≤ s.size from Nat.le_refl _)] at h1
        rw [List.drop_of_length_le (show s.data.toList.length ≤ s.size from Nat.le_refl _)] at hgo
        rw [HR.out]
        unfold disA
        rw [if_pos h1, hgo]
        rfl
      clear hgo
      go_wp2_with fail
      go_ret2
      exact ⟨by rw [hfin.out]; rfl, rfl⟩
end Go.Proofs.YtimegcnpembhkaaDoor
