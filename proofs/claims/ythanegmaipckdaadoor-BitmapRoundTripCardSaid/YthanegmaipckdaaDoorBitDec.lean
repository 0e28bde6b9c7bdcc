/- The contract of the reference's decimal (layer 52). -/
import Derived.Test.YthanegmaipckdaaDoorBitCheck
import Derived.WalkSpells
namespace Go.Proofs.YthanegmaipckdaaDoor
open Go.RowKit
open Go.Lib hiding intOf
set_option linter.unusedVariables false

theorem decD_le : ∀ u : Nat, (Lib.decDigits u).length ≤ u + 1 := by
  intro u
  induction u using Nat.strongRecOn with
  | _ u ih =>
    rw [Lib.decDigits]
    split
    · simp
    · have := ih (u / 10) (by omega)
      simp
      omega

set_option maxRecDepth 100000 in
theorem dec_any : ∀ (n : Nat), n ≤ 1000000000 → ∀ w : World, Calls Tryd.prog 30 #[.int .i64 (n : Int)] w fun e w' => e = .returned (.string (BA (Lib.decDigits n))) ∧ w = w' := by
  intro n
  induction n using Nat.strongRecOn with
  | _ n ih =>
    intro hn w
    by_cases h : n < 10
    · obtain ⟨R, hR⟩ : ∃ R, R = BA (Lib.decDigits n) := ⟨_, rfl⟩
      rw [← hR]
      have hq : Hid ((⟨#[48, 49, 50, 51, 52, 53, 54, 55, 56, 57]⟩ : ByteArray).extract n (n + 1) = R) := by
        show _ = _
        rw [hR]
        have : ∀ k : Fin 10, (⟨#[48, 49, 50, 51, 52, 53, 54, 55, 56, 57]⟩ : ByteArray).extract k.val (k.val + 1) = BA (Lib.decDigits k.val) := by decide +kernel
        exact this ⟨n, h⟩
      clear hR ih
      go_enter Tryd.func30, Tryd.ntmps30
      go_wp2_with fail
      go_ret
      exact ⟨by rw [hq.out]; rfl, rfl⟩
    · have h1 := ih (n / 10) (by omega) (by omega)
      have h2 := ih (n % 10) (by omega) (by omega)
      have hd : Hid (BA (Lib.decDigits (n / 10)) ++ BA (Lib.decDigits (n % 10)) = BA (Lib.decDigits n)) := by
        show _ = _
        rw [← BA_append]
        congr 1
        conv => rhs; rw [Lib.decDigits]
        rw [dif_neg h]
        congr 1
        rw [Lib.decDigits, dif_pos (by omega)]
      have z1 : (BA (Lib.decDigits (n / 10))).size ≤ 1000000001 := by rw [BA_size]; have := decD_le (n / 10); omega
      have z2 : (BA (Lib.decDigits (n % 10))).size ≤ 1000000001 := by rw [BA_size]; have := decD_le (n % 10); omega
      generalize BA (Lib.decDigits n) = R at *
      generalize BA (Lib.decDigits (n / 10)) = R1 at *
      generalize BA (Lib.decDigits (n % 10)) = R2 at *
      have H1 := Lib.hid h1
      have H2 := Lib.hid h2
      clear ih h1 h2
      go_enter Tryd.func30, Tryd.ntmps30
      go_wp2_with fail
      refine (H1.out _).mono ?_
      rintro e w1 ⟨rfl, rfl⟩
      go_wp2_with fail
      refine (H2.out _).mono ?_
      rintro e w1 ⟨rfl, rfl⟩
      go_wp2_with fail
      go_ret
      exact ⟨by rw [← hd.out]; rfl, rfl⟩
end Go.Proofs.YthanegmaipckdaaDoor
