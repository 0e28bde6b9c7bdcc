/- The law AssemblerLayout returns true. -/
import Derived.Test.YtimegcnpembhkaaDoorAsmAwake
import Derived.Test.YtimegcnpembhkaaDoorAsmWide
namespace Go.Proofs.YtimegcnpembhkaaDoor
open Go.RowKit
open Go.Lib hiding intOf
set_option linter.unusedVariables false

theorem words_lst {w : World} {A : Option Addr} {n c : Nat} {l : List Tok} (h : Lst w A n c (l.map wordV)) : Lst w A n c ((l.map fun t => BA t.1).map .string) := by
  rw [List.map_map]; exact h

set_option maxHeartbeats 4000000 in
set_option maxRecDepth 100000 in
theorem layout_any (src : ByteArray) (o : Int) (w : World) (hs : src.size ≤ maxLen) (hE : Env w) :
    Calls Tryd.prog 9 #[.string src, .int .i64 o] w fun e w' => e = .returned (.bool true) ∧ Ext w w' := by
  have HAW := Lib.hid (fun W (hW : Env W) => awake_any W hW)
  unfold maxLen at hs
  by_cases g1 : (300 : Int) < src.size
  · go_enter Tryd.func9, Tryd.ntmps9
    go_wp2_with fail
    refine (HAW.out _ hE).mono ?_
    rintro e w1 ⟨rfl, hx⟩
    go_wp2_with fail
    go_ret
    exact ⟨rfl, hx⟩
  obtain ⟨m, hm⟩ := hE.maxLen
  have hc1 := Tryd.strings_Contains src ⟨#[35]⟩ m w (by omega) hm
  have hc2 := Tryd.strings_Contains src ⟨#[10]⟩ m w (by omega) hm
  have e1 : Lib.contains src.data.toList (⟨#[35]⟩ : ByteArray).data.toList = decide ((35 : UInt8) ∈ src.data.toList) := contains_mem 35 _
  have e2 : Lib.contains src.data.toList (⟨#[10]⟩ : ByteArray).data.toList = decide ((10 : UInt8) ∈ src.data.toList) := contains_mem 10 _
  rw [e1] at hc1
  rw [e2] at hc2
  by_cases m1 : (35 : UInt8) ∈ src.data.toList
  · rw [decide_eq_true m1] at hc1
    have H1 := Lib.hid hc1
    clear hc1 hc2 e1 e2 m1 hm
    go_enter Tryd.func9, Tryd.ntmps9
    go_wp2_with fail
    refine H1.out.mono ?_
    rintro e w1 ⟨rfl, rfl⟩
    go_wp2_with fail
    refine (HAW.out _ hE).mono ?_
    rintro e w1 ⟨rfl, hx⟩
    go_wp2_with fail
    go_ret
    exact ⟨rfl, hx⟩
  rw [decide_eq_false m1] at hc1
  by_cases m2 : (10 : UInt8) ∈ src.data.toList
  · rw [decide_eq_true m2] at hc2
    have H1 := Lib.hid hc1
    have H2 := Lib.hid hc2
    clear hc1 hc2 e1 e2 m1 m2 hm
    go_enter Tryd.func9, Tryd.ntmps9
    go_wp2_with fail
    refine H1.out.mono ?_
    rintro e w1 ⟨rfl, rfl⟩
    go_wp2_with fail
    refine H2.out.mono ?_
    rintro e w1 ⟨rfl, rfl⟩
    go_wp2_with fail
    refine (HAW.out _ hE).mono ?_
    rintro e w1 ⟨rfl, hx⟩
    go_wp2_with fail
    go_ret
    exact ⟨rfl, hx⟩
  rw [decide_eq_false m2] at hc2
  have hsl : src.data.toList.length = src.size := rfl
  have hcnt : Lib.countB src ⟨#[32]⟩ ≤ src.size := by
    have h1 : 1 ≤ (⟨#[32]⟩ : ByteArray).size := Nat.le_refl _
    exact countB_le ⟨#[32]⟩ h1 src.size src (Nat.le_refl _)
  have hra := Tryd.strings_ReplaceAll src ⟨#[32]⟩ ⟨newW.toArray⟩ m w (by omega) hm (Nat.le_refl 1) (by have : (⟨newW.toArray⟩ : ByteArray).size = 15 := rfl; rw [this]; omega)
  have hfl : Lib.replaceAll src.data.toList (⟨#[32]⟩ : ByteArray).data.toList (⟨newW.toArray⟩ : ByteArray).data.toList = src.data.toList.flatMap fun x => if x = 32 then newW else [x] := replaceAll_flat 32 newW _ (by decide)
  rw [hfl] at hra
  obtain ⟨q1, q2, q3, q4⟩ := asm_wide src.data.toList o m1 m2
  obtain ⟨k1, _, _⟩ := toks_wide src.data.toList m1 m2
  have hwl : (wideA src.data.toList).length ≤ 5000 := by
    have key : ∀ l : Bytes, (l.flatMap fun x => if x = 32 then newW else [x]).length ≤ 15 * l.length := by
      intro l
      induction l with
      | nil => simp
      | cons b l ih =>
        rw [List.flatMap_cons, List.length_append]
        have : (if b = 32 then newW else [b]).length ≤ 15 := by split <;> simp [newW]
        simp only [List.length_cons]
        omega
    unfold wideA
    rw [List.length_append]
    have := key src.data.toList
    have : headW.length = 12 := rfl
    omega
  have hwd : ((⟨headW.toArray⟩ : ByteArray) ++ ⟨(src.data.toList.flatMap fun x => if x = 32 then newW else [x]).toArray⟩) = BA (wideA src.data.toList) := bytes_inj (by simp [BA, wideA])
  have hA := fun W (hW : Env W) => assemble_any src o W (by omega) hW
  have hB := fun W (hW : Env W) => assemble_any (BA (wideA src.data.toList)) o W (by rw [BA_size]; omega) hW
  have hW1 := fun W (hW : Env W) => awords_any src W (by omega) hW
  have hW2 := fun W (hW : Env W) => awords_any (BA (wideA src.data.toList)) W (by rw [BA_size]; omega) hW
  rw [BA_data] at hB hW2
  have hRs : (⟨(src.data.toList.flatMap fun x => if x = 32 then newW else [x]).toArray⟩ : ByteArray).size ≤ 4500 := by
    have h1 : (wideA src.data.toList).length ≤ 4512 := by
      have key : ∀ l : Bytes, (l.flatMap fun x => if x = 32 then newW else [x]).length ≤ 15 * l.length := by
        intro l
        induction l with
        | nil => simp
        | cons b l ih =>
          rw [List.flatMap_cons, List.length_append]
          have : (if b = 32 then newW else [b]).length ≤ 15 := by split <;> simp [newW]
          simp only [List.length_cons]
          omega
      unfold wideA
      rw [List.length_append]
      have := key src.data.toList
      have : headW.length = 12 := rfl
      omega
    unfold wideA at h1
    rw [List.length_append] at h1
    have h2 : headW.length = 12 := rfl
    show (src.data.toList.flatMap fun x => if x = 32 then newW else [x]).length ≤ 4500
    omega
  generalize (⟨(src.data.toList.flatMap fun x => if x = 32 then newW else [x]).toArray⟩ : ByteArray) = RS at *
  have hlst : (toks src.data.toList).map (fun t => BA t.1) = (toks (wideA src.data.toList)).map fun t => BA t.1 := by
    have := congrArg (List.map BA) k1
    rw [List.map_map, List.map_map] at this
    exact this.symm
  generalize asmA src.data.toList o = RA at *
  generalize asmA (wideA src.data.toList) o = RB at *
  obtain ⟨s, l, n, e⟩ := RA
  obtain ⟨t, l', n', e'⟩ := RB
  simp only at q1 q2 q3 q4 hA hB
  subst q1 q2 q3
  generalize toks src.data.toList = ta at *
  generalize toks (wideA src.data.toList) = tb at *
  generalize BA (wideA src.data.toList) = WD at *
  have hss : ((BA s).toList == (BA s).toList) = true := by simp
  unfold headW at hwd
  have hwd2 : Hid ((({ data := #[35, 32, 97, 32, 99, 111, 109, 109, 101, 110, 116, 10] } : ByteArray) ++ RS) = WD) := hwd
  unfold newW at hra
  have H1 := Lib.hid hc1
  have H2 := Lib.hid hc2
  have H3 := Lib.hid hra
  have HA := Lib.hid hA
  have HB := Lib.hid hB
  have HW1 := Lib.hid hW1
  have HW2 := Lib.hid hW2
  have HL := Lib.hid hlst
  clear hc1 hc2 hra hA hB hW1 hW2 hlst e1 e2 m1 m2 hm k1 hfl hwl hsl hcnt hwd
  generalize BA s = S at *
  go_enter Tryd.func9, Tryd.ntmps9
  go_wp2_with fail
  refine H1.out.mono ?_
  rintro e0 w1 ⟨rfl, rfl⟩
  go_wp2_with fail
  refine H2.out.mono ?_
  rintro e0 w1 ⟨rfl, rfl⟩
  go_wp2_with fail
  refine H3.out.mono ?_
  rintro e0 w2 ⟨rfl, hx2⟩
  have hx2 : Ext w1 w2 := hx2
  have hE2 := hE.ext hx2
  go_wp2_with fail
  refine (HA.out _ hE2).mono ?_
  rintro e0 w3 ⟨A, cA, rfl, hlA, hx3⟩
  have hE3 := hE2.ext hx3
  go_wp2_with fail
  rw [hwd2.out]
  refine (HB.out _ hE3).mono ?_
  rintro e0 w4 ⟨B, cB, rfl, hlB, hx4⟩
  have hE4 := hE3.ext hx4
  have hsm := sameSym_any A B l.length l.length cA cB (l.map labH) (l.map labH) w4 (hlA.ext hx4) hlB
  rw [decide_eq_true rfl] at hsm
  have HSM := Lib.hid hsm
  have hx24 := (hx2.trans hx3).trans hx4
  clear hlA hlB hsm hx2 hx3 hx4
  go_wp2_with fail
  refine HSM.out.mono ?_
  rintro e0 w5 ⟨rfl, hx5⟩
  have hE5 := hE4.ext hx5
  have hcond : (decide (0 < n) == decide (1 < n')) = true := by
    by_cases h : 0 < n
    · rw [decide_eq_true h, decide_eq_true (q4.1 h)]; rfl
    · rw [decide_eq_false h, decide_eq_false (fun k => h (q4.2 k))]; rfl
  clear q4
  go_wp2_with fail
  refine (HW1.out _ hE5).mono ?_
  rintro e0 w6 ⟨v1, rfl, hown1, hx6⟩
  obtain ⟨C, cC, rfl, hlC⟩ := Lst.of_own hown1
  have hE6 := hE5.ext hx6
  clear hown1
  go_wp2_with fail
  refine (HW2.out _ hE6).mono ?_
  rintro e0 w7 ⟨v2, rfl, hown2, hx7⟩
  obtain ⟨D, cD, rfl, hlD⟩ := Lst.of_own hown2
  have hE7 := hE6.ext hx7
  have hst := sameStr_any C D ta.length tb.length cC cD _ _ w7 (words_lst (hlC.ext hx7)) (words_lst hlD)
  rw [decide_eq_true HL.out] at hst
  have HST := Lib.hid hst
  have hx57 := (hx5.trans hx6).trans hx7
  clear hown2 hlC hlD hst hx5 hx6 hx7
  go_wp2_with fail
  refine HST.out.mono ?_
  rintro e0 w8 ⟨rfl, hx8⟩
  go_wp2_with fail
  refine (HAW.out _ (hE7.ext hx8)).mono ?_
  rintro e0 w9 ⟨rfl, hx9⟩
  go_wp2_with fail
  go_ret
  exact ⟨rfl, ((hx24.trans hx57).trans hx8).trans hx9⟩
end Go.Proofs.YtimegcnpembhkaaDoor
