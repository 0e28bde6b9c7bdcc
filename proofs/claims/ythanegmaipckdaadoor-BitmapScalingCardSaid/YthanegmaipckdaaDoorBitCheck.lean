/- Why rows are not a picture: the plain law, the contracts of both checks. -/
import Derived.Test.YthanegmaipckdaaDoorAsmLib
import Derived.Test.YthanegmaipckdaaDoorBitPlain
namespace Go.Proofs.YthanegmaipckdaaDoor
open Go.RowKit
open Go.Lib hiding intOf
set_option linter.unusedVariables false

theorem ret_intB {k : IntKind} {a b : Int} (h : a = b) : Ending.returned (.int k a) = .returned (.int k b) := by rw [h]

set_option maxHeartbeats 2000000 in
set_option maxRecDepth 100000 in
theorem bcheck_any (A : Option Addr) (n cap : Nat) (rows : List ByteArray) (w : World) (hl : Lst w A n cap (rows.map .string)) (hz : ∀ r ∈ rows, r.size ≤ maxLen) :
    Calls Tryd.prog 22 #[.slice A n cap] w fun e w' => e = .returned (.int .i64 (picE rows)) ∧ Ext w w' := by
  have hlen : n = rows.length := by simpa using hl.len
  have hroom := hl.room
  have hmax := hl.max
  unfold maxLen at hmax
  obtain ⟨R, hR⟩ : ∃ R, R = picE rows := ⟨_, rfl⟩
  rw [← hR]
  unfold picE at hR
  by_cases h0 : n = 0
  · have hfin : Hid (R = 4) := by show _ = _; rw [hR, if_pos (List.eq_nil_of_length_eq_zero (by omega))]
    clear hR hl hz
    subst h0
    go_enter Tryd.func22, Tryd.ntmps22
    go_wp2_with fail
    go_ret
    exact ⟨ret_intB hfin.out.symm, Ext.refl _⟩
  have hne : rows ≠ [] := fun e => h0 (by rw [hlen, e]; rfl)
  rw [if_neg hne] at hR
  by_cases h2 : 200 < n
  · have hfin : Hid (R = 6) := by show _ = _; rw [hR, if_pos (by omega)]
    clear hR hl hz hlen hne
    have hn0 : 0 < n := by omega
    have hn2 : (n : Int) ≠ 0 := by omega
    go_enter Tryd.func22, Tryd.ntmps22
    go_wp2_with fail
    go_ret
    exact ⟨ret_intB hfin.out.symm, Ext.refl _⟩
  rw [if_neg (by omega)] at hR
  obtain ⟨b, off, rfl, hc⟩ := hl.at_ (by omega)
  have hw0 : widthB rows = (rows[0]'(by omega)).size := by
    cases rows with
    | nil => exact absurd rfl hne
    | cons r t => rfl
  have hc0 := hc 0 (by rw [List.length_map]; omega)
  rw [List.getElem_map] at hc0
  have htr := fun (s : ByteArray) W (h : s.size ≤ maxLen) => trim_any [46, 35] (by decide) (by decide) s W (by unfold maxLen at h; omega)
  rw [hw0] at hR
  generalize hr0 : (rows[0]'(by omega)) = r0 at *
  have HR := Lib.hid hR
  have HC := Lib.hid hc
  have HL := Lib.hid hlen
  have HZ := Lib.hid hz
  have HT := Lib.hid htr
  have hn0 : ((n : Int) == 0) = false := beq_eq_false_iff_ne.2 (by omega)
  clear hR hc hlen hz htr hl hr0 hw0 hne
  go_enter Tryd.func22, Tryd.ntmps22
  go_wp2_with fail
  go_loopw [4, 13, 17, 25, 33] (fun rv i a c d wr => ∃ k : Nat, k ≤ n ∧ i = .int .i64 k ∧ rowsE r0.size (rows.drop k) = R ∧ Ext w wr) (fun _ i _ _ _ _ => n - (intOf i).toNat)
  case atStart => exact ⟨0, Nat.zero_le _, rfl, HR.out.symm, Ext.refl _⟩
  case round =>
    obtain ⟨k, hk, rfl, hE, hx⟩ := hrel
    by_cases hlt : k < n
    · have hkl : k < rows.length := by have := HL.out; omega
      have hck := hx.cell (HC.out k (by rw [List.length_map]; exact hkl))
      have hc0k : wr.cell? ⟨b, off, none⟩ = some (.string r0) := hx.cell hc0
      rw [List.getElem_map] at hck
      have hsz := HZ.out rows[k] (List.getElem_mem hkl)
      have hst : (if rowE r0.size rows[k] = 0 then rowsE r0.size (rows.drop (k + 1)) else rowE r0.size rows[k]) = R := by
        rw [← hE, List.drop_eq_getElem_cons hkl]; rfl
      generalize rows[k] = r at *
      have hT := fun W => HT.out r W hsz
      have HTR := Lib.hid hT
      clear hT hE
      by_cases g1 : r.size = 0
      · have hfin : Hid (2 = R) := by
          show _ = _
          have he : rowE r0.size r = 2 := by unfold rowE; rw [if_pos (Or.inl g1)]
          rw [← hst, he, if_neg (by decide)]
        have e1 : r.toList = [] := by rw [ByteArray.toList_eq]; exact List.eq_nil_of_length_eq_zero g1
        clear hst g1
        go_wp2_with fail
        go_ret
        exact ⟨ret_intB hfin.out, hx⟩
      have e1 : (r.toList == []) = false := by
        rw [beq_eq_false_iff_ne, ByteArray.toList_eq]
        intro h
        exact g1 (by have : r.size = r.data.toList.length := rfl; rw [this, h]; rfl)
      have e1' : ¬ (r.toList = []) := by simpa using e1
      by_cases g2 : 200 < r.size
      · have hfin : Hid (2 = R) := by
          show _ = _
          have he : rowE r0.size r = 2 := by unfold rowE; rw [if_pos (Or.inr g2)]
          rw [← hst, he, if_neg (by decide)]
        clear hst g1
        go_wp2_with fail
        go_ret
        exact ⟨ret_intB hfin.out, hx⟩
      have g12 : ¬ (r.size = 0 ∨ 200 < r.size) := by omega
      by_cases g3 : r.size = r0.size
      · by_cases g4 : r.data.toList.all isPx = true
        · have he : rowE r0.size r = 0 := by unfold rowE; rw [if_neg g12, if_neg (fun h => h g3), if_pos g4]
          rw [he, if_pos rfl] at hst
          have hnx := Lib.hid hst
          have g4' : (r.data.toList.all (([46, 35] : Bytes).contains ·)) = true := g4
          have HTR2 : Hid (∀ W, Calls Tryd.prog 37 #[.string r, .string ⟨#[46, 35]⟩] W fun e w' => ∃ q : ByteArray, e = .returned (.string q) ∧ (q.toList == []) = true ∧ Ext W w') := by
            intro W
            have := HTR.out W
            rw [g4'] at this
            exact this
          clear hst g1 g4 g12 HTR g4' he
          go_wp2_with fail
          refine (HTR2.out _).mono ?_
          rintro e w2 ⟨q, rfl, hq, hx2⟩
          have hq' : q.toList = [] := by simpa using hq
          go_wp2_with fail
          go_roundw
          case rel => exact ⟨k + 1, by omega, by go_num, hnx.out, hx.trans hx2⟩
          case measure => simp [intOf]; omega
        · have he : rowE r0.size r = 3 := by unfold rowE; rw [if_neg g12, if_neg (fun h => h g3), if_neg g4]
          rw [he, if_neg (by decide)] at hst
          have hfin := Lib.hid hst
          have g4' : (r.data.toList.all (([46, 35] : Bytes).contains ·)) = false := by
            have : r.data.toList.all isPx = false := by simpa using g4
            exact this
          have HTR2 : Hid (∀ W, Calls Tryd.prog 37 #[.string r, .string ⟨#[46, 35]⟩] W fun e w' => ∃ q : ByteArray, e = .returned (.string q) ∧ (q.toList == []) = false ∧ Ext W w') := by
            intro W
            have := HTR.out W
            rw [g4'] at this
            exact this
          clear hst g1 g4 g12 HTR g4' he
          go_wp2_with fail
          refine (HTR2.out _).mono ?_
          rintro e w2 ⟨q, rfl, hq, hx2⟩
          have hq' : ¬ q.toList = [] := by simpa using hq
          go_wp2_with fail
          go_ret
          exact ⟨ret_intB hfin.out, hx.trans hx2⟩
      · have he : rowE r0.size r = 1 := by unfold rowE; rw [if_neg g12, if_pos g3]
        rw [he, if_neg (by decide)] at hst
        have hfin := Lib.hid hst
        have g3' : ¬ ((r.size : Int) = (r0.size : Int)) := by omega
        clear hst g1 g12 he
        go_wp2_with fail
        go_ret
        exact ⟨ret_intB hfin.out, hx⟩
    · obtain rfl : k = n := by omega
      have hfin : Hid (0 = R) := by
        show _ = _
        rw [← hE, List.drop_of_length_le (by have := HL.out; omega)]; rfl
      clear hE
      go_wp2_with fail
      go_ret
      exact ⟨ret_intB hfin.out, hx⟩
end Go.Proofs.YthanegmaipckdaaDoor
