/- The contract of the reference's check of rows (layer 52). -/
import Derived.Test.YthanegmaipckdaaDoorBitCheck
import Derived.Deep.QuietTactic
import Derived.BigQuiet
namespace Go.Proofs.YthanegmaipckdaaDoor
open Go.RowKit
open Go.Lib hiding intOf
set_option linter.unusedVariables false

theorem u8_allP {p : UInt8 → Prop} (h : ∀ n : Fin 256, p (UInt8.ofNat n.val)) (c : UInt8) : p c := by
  have := h ⟨c.toNat, c.toNat_lt⟩
  simpa using this
theorem px_int (c : UInt8) : isPx c = !((((c.toNat : Nat) : Int) != 46) && (((c.toNat : Nat) : Int) != 35)) := u8_allP (p := fun c => isPx c = !((((c.toNat : Nat) : Int) != 46) && (((c.toNat : Nat) : Int) != 35))) (by decide +kernel) c
theorem take_snocB (s : ByteArray) (k : Nat) (h : k < s.size) : s.data.toList.take (k + 1) = s.data.toList.take k ++ [s[k]] := List.take_succ_eq_append_getElem (show k < s.data.toList.length from h)

set_option maxHeartbeats 4000000 in
set_option maxRecDepth 100000 in
theorem rbcheck_any (A : Option Addr) (n cap : Nat) (rows : List ByteArray) (w : World) (hl : Lst w A n cap (rows.map .string)) (hz : ∀ r ∈ rows, r.size ≤ maxLen) :
    Calls Tryd.prog 29 #[.slice A n cap] w fun e w' => e = .returned (.int .i64 (picE rows)) ∧ Ext w w' := by
  have hlen : n = rows.length := by simpa using hl.len
  have hroom := hl.room
  have hmax := hl.max
  unfold maxLen at hmax
  obtain ⟨R, hR⟩ : ∃ R, R = picE rows := ⟨_, rfl⟩
  rw [← hR]
  unfold picE at hR
  by_cases h0 : n = 0
  · have hfin : Hid (R = 4) := by show _ = _; rw [hR, if_pos (List.eq_nil_of_length_eq_zero (by omega))]
    clear hR hl hz
    subst h0
    go_enter Tryd.func29, Tryd.ntmps29
    go_wp2_with fail
    go_ret
    exact ⟨ret_intB hfin.out.symm, Ext.refl _⟩
  have hne : rows ≠ [] := fun e => h0 (by rw [hlen, e]; rfl)
  rw [if_neg hne] at hR
  have hn0 : ((n : Int) == 0) = false := beq_eq_false_iff_ne.2 (by omega)
  by_cases h2 : 200 < n
  · have hfin : Hid (R = 6) := by show _ = _; rw [hR, if_pos (by omega)]
    clear hR hl hz hlen hne
    go_enter Tryd.func29, Tryd.ntmps29
    go_wp2_with fail
    go_ret
    exact ⟨ret_intB hfin.out.symm, Ext.refl _⟩
  rw [if_neg (by omega)] at hR
  obtain ⟨b, off, rfl, hc⟩ := hl.at_ (by omega)
  have hw0 : widthB rows = (rows[0]'(by omega)).size := by
    cases rows with
    | nil => exact absurd rfl hne
    | cons r t => rfl
  have hc0 := hc 0 (by rw [List.length_map]; omega)
  rw [List.getElem_map] at hc0
  rw [hw0] at hR
  generalize hr0 : (rows[0]'(by omega)) = r0 at *
  have HR := Lib.hid hR
  have HC := Lib.hid hc
  have HL := Lib.hid hlen
  have HZ := Lib.hid hz
  clear hR hc hlen hz hl hr0 hw0 hne
  go_enter Tryd.func29, Tryd.ntmps29
  go_wp2_with fail
  go_loopw [3, 4] (fun i j wr => ∃ k : Nat, k ≤ n ∧ i = .int .i64 k ∧ rowsE r0.size (rows.drop k) = R ∧ Ext w wr) (fun i _ _ => n - (intOf i).toNat)
  case atStart => exact ⟨0, Nat.zero_le _, rfl, HR.out.symm, Ext.refl _⟩
  case round =>
    obtain ⟨k, hk, rfl, hE, hx⟩ := hrel
    by_cases hlt : k < n
    · have hkl : k < rows.length := by have := HL.out; omega
      have hck := hx.cell (HC.out k (by rw [List.length_map]; exact hkl))
      have hc0k : wr.cell? ⟨b, off, none⟩ = some (.string r0) := hx.cell hc0
      rw [List.getElem_map] at hck
      have hsz := HZ.out rows[k] (List.getElem_mem hkl)
      have hst : (if rowE r0.size rows[k] = 0 then rowsE r0.size (rows.drop (k + 1)) else rowE r0.size rows[k]) = R := by
        rw [← hE, List.drop_eq_getElem_cons hkl]; rfl
      generalize rows[k] = r at *
      clear hE
      unfold maxLen at hsz
      by_cases g1 : r.size = 0
      · have hfin : Hid (2 = R) := by
          show _ = _
          have he : rowE r0.size r = 2 := by unfold rowE; rw [if_pos (Or.inl g1)]
          rw [← hst, he, if_neg (by decide)]
        clear hst
        go_wp2_with fail
        go_ret
        exact ⟨ret_intB hfin.out, hx⟩
      by_cases g2 : 200 < r.size
      · have hfin : Hid (2 = R) := by
          show _ = _
          have he : rowE r0.size r = 2 := by unfold rowE; rw [if_pos (Or.inr g2)]
          rw [← hst, he, if_neg (by decide)]
        clear hst
        go_wp2_with fail
        go_ret
        exact ⟨ret_intB hfin.out, hx⟩
      have g12 : ¬ (r.size = 0 ∨ 200 < r.size) := by omega
      by_cases g3 : r.size = r0.size
      · have g3' : ((r.size : Int) != (r0.size : Int)) = false := by rw [g3]; simp
        have hst2 := Lib.hid hst
        clear hst
        go_wp2_with fail
        go_quiet (fail)
        go_wp2_with fail
        go_loop [4] (fun j => ∃ m : Nat, m ≤ r.size ∧ j = .int .i64 m ∧ (r.data.toList.take m).all isPx = true) (fun j => r.size - (intOf j).toNat)
        case atStart => exact ⟨0, Nat.zero_le _, rfl, rfl⟩
        case round =>
          obtain ⟨m, hm, rfl, hpx⟩ := hrel
          by_cases hlm : m < r.size
          · have hts := take_snocB r m hlm
            have hpi := px_int r[m]
            cases hp : isPx r[m] with
            | true =>
              have hnx : Hid ((r.data.toList.take (m + 1)).all isPx = true) := by show _ = _; rw [hts, List.all_append, hpx]; simp [hp]
              rw [hp] at hpi
              by_cases h46 : ((((r[m]).toNat : Nat) : Int) != 46) = true
              · have h35 : ((((r[m]).toNat : Nat) : Int) != 35) = false := by rw [h46] at hpi; simpa using hpi
                clear hpx hts hpi hp
                go_wp2_with fail
                go_round
                case rel => exact ⟨m + 1, by omega, by go_num, hnx.out⟩
                case measure => simp [intOf]; omega
              · have h46 : ((((r[m]).toNat : Nat) : Int) != 46) = false := by simpa using h46
                clear hpx hts hpi hp
                go_wp2_with fail
                go_round
                case rel => exact ⟨m + 1, by omega, by go_num, hnx.out⟩
                case measure => simp [intOf]; omega
            | false =>
              rw [hp] at hpi
              have h46 : ((((r[m]).toNat : Nat) : Int) != 46) = true := by revert hpi; cases ((((r[m]).toNat : Nat) : Int) != 46) <;> simp
              have h35 : ((((r[m]).toNat : Nat) : Int) != 35) = true := by rw [h46] at hpi; simpa using hpi
              have hfin : Hid (3 = R) := by
                show _ = _
                have hall : ¬ r.data.toList.all isPx = true := by
                  rw [List.all_eq_true]
                  intro h
                  have := h r[m] (List.getElem_mem (show m < r.data.toList.length from hlm))
                  rw [hp] at this
                  cases this
                have he : rowE r0.size r = 3 := by unfold rowE; rw [if_neg g12, if_neg (fun h => h g3), if_neg hall]
                rw [← hst2.out, he, if_neg (by decide)]
              clear hpx hts hpi hp
              go_wp2_with fail
              go_ret
              exact ⟨ret_intB hfin.out, hx.drewN _⟩
          · have hall : r.data.toList.all isPx = true := by
              rwa [List.take_of_length_le (by have : r.data.toList.length = r.size := rfl; omega)] at hpx
            have hnx : Hid (rowsE r0.size (rows.drop (k + 1)) = R) := by
              show _ = _
              have he : rowE r0.size r = 0 := by unfold rowE; rw [if_neg g12, if_neg (fun h => h g3), if_pos hall]
              rw [← hst2.out, he, if_pos rfl]
            clear hpx hall
            go_wp2_with fail
            go_roundw
            case rel => exact ⟨k + 1, by omega, by go_num, hnx.out, hx.drewN _⟩
            case measure => simp [intOf]; omega
      · have g3' : ((r.size : Int) != (r0.size : Int)) = true := bne_iff_ne.2 (by omega)
        have hfin : Hid (1 = R) := by
          show _ = _
          have he : rowE r0.size r = 1 := by unfold rowE; rw [if_neg g12, if_pos g3]
          rw [← hst, he, if_neg (by decide)]
        clear hst g12
        go_wp2_with fail
        go_quiet (fail)
        go_wp2_with fail
        go_ret
        exact ⟨ret_intB hfin.out, hx.drewN _⟩
    · obtain rfl : k = n := by omega
      have hfin : Hid (0 = R) := by
        show _ = _
        rw [← hE, List.drop_of_length_le (by have := HL.out; omega)]; rfl
      clear hE
      go_wp2_with fail
      go_ret
      exact ⟨ret_intB hfin.out, hx⟩
end Go.Proofs.YthanegmaipckdaaDoor
