/- The contract of the guard of the laws of layer 38. -/
import Derived.Test.YtkbaappeakgnoaaGreatDoorRef38c
namespace Go.Proofs.YtkbaappeakgnoaaGreatDoor
open Go.RowKit Go.Lib
set_option linter.unusedVariables false
attribute [local simp] Slots Slot look Is Oper.looksAt Op.operands Call.operands

set_option maxHeartbeats 1000000 in
set_option maxRecDepth 100000 in
theorem fine_any (A B : Option Addr) (n cap m d : Nat) (l : List Hold) (ps : List ByteArray) (w : World) (hl : HLst w A n cap l) (hz : ∀ h ∈ l, h.1.size ≤ maxLen) (hps : Lst w B m d (ps.map .string)) (hq : ∀ p ∈ ps, p.size < 4294967281) (hE : Env w) :
    Calls Tryz.prog 6 #[.slice A n cap, .slice B m d] w fun e w' => ∃ r : Bool, e = .returned (.bool r) ∧ (r = true → n ≤ 12 ∧ (∀ i, i < l.length → good l i) ∧ ∀ p ∈ ps, chk p = 0) ∧ Ext w w' := by
  have hv := fun W (hW : HLst W A n cap l) => rvalid_any A n cap l W hW hz
  have hroom := hl.room
  have hmax := hl.max
  have hlen2 := hps.len
  have hroom2 := hps.room
  have hmax2 := hps.max
  unfold maxLen at hmax hmax2
  rw [List.length_map] at hlen2
  have HV := Lib.hid hv
  have HL := Lib.hid hlen2
  clear hv hlen2
  go_enter Tryz.func6, Tryz.ntmps6
  by_cases h12 : (12 : Int) < (n : Int)
  · have hb : decide ((12 : Int) < (n : Int)) = true := decide_eq_true h12
    go_wp2_with fail
    go_ret
    exact ⟨false, rfl, fun h => absurd h (by decide), Ext.refl _⟩
  · have hb : decide ((12 : Int) < (n : Int)) = false := decide_eq_false h12
    go_wp2_with fail
    refine (HV.out _ hl).mono ?_
    rintro e w1 ⟨r, rfl, hr01, hr, hx⟩
    rcases hr01 with rfl | rfl
    · clear hr
      go_wp2_with fail
      go_ret
      exact ⟨false, rfl, fun h => absurd h (by decide), hx⟩
    · have HG := Lib.hid (hr rfl)
      clear hr
      go_wp2_with fail
      go_loopw [6, 17] (fun p i wr => ∃ k : Nat, k ≤ m ∧ i = .int .i64 k ∧ (∀ i, i < k → chk (ps.getD i ⟨#[]⟩) = 0) ∧ Ext w wr) (fun _ i _ => m - (intOf i).toNat)
      case atStart => exact ⟨0, Nat.zero_le _, rfl, fun i hi => absurd hi (Nat.not_lt_zero _), hx⟩
      case round =>
        obtain ⟨k, hk, rfl, hgood, hx2⟩ := hrel
        have HP := Lib.hid hgood
        clear hgood
        by_cases hlt : k < m
        · obtain ⟨b, off, rfl, hc⟩ := hps.at_ (by omega)
          have hkl : k < ps.length := by have := HL.out; omega
          have hc1 := hx2.cell (hc k (by rw [List.length_map]; exact hkl))
          rw [List.getElem_map] at hc1
          have hck := fun W (hW : Env W) => check_any ps[k] W (hq _ (List.getElem_mem hkl)) hW
          have hnext : Hid (chk ps[k] = 0 → ∀ i, i < k + 1 → chk (ps.getD i ⟨#[]⟩) = 0) := by
            intro h i hi
            by_cases hik : i < k
            · exact HP.out i hik
            · obtain rfl : i = k := by omega
              rw [show ps.getD i ⟨#[]⟩ = ps[i] by simp [List.getD, hkl]]
              exact h
          have hE2 := hE.ext hx2
          generalize ps[k] = q at hc1 hck hnext
          have HCK := Lib.hid hck
          have HC := Lib.hid hc
          clear hck hc
          by_cases hc0 : chk q = 0
          · have hb2 : (chk q != 0) = false := by rw [hc0]; rfl
            have H0 := Lib.hid hc0
            clear hc0
            generalize hcc : chk q = cc at hb2 HCK hnext H0
            clear hcc
            go_wp2_with fail
            refine (HCK.out _ hE2).mono ?_
            rintro e w2 ⟨rfl, hx3⟩
            go_wp2_with fail
            go_roundw
            case rel => exact ⟨k + 1, by omega, by go_num, hnext.out H0.out, hx2.trans hx3⟩
            case measure => simp [intOf]; omega
          · have hb2 : (chk q != 0) = true := bne_iff_ne.2 hc0
            clear hc0
            generalize hcc : chk q = cc at hb2 HCK hnext
            clear hcc
            go_wp2_with fail
            refine (HCK.out _ hE2).mono ?_
            rintro e w2 ⟨rfl, hx3⟩
            go_wp2_with fail
            go_ret
            exact ⟨false, rfl, fun h => absurd h (by decide), hx2.trans hx3⟩
        · obtain rfl : k = m := by omega
          go_wp2_with fail
          go_ret
          refine ⟨true, rfl, fun _ => ⟨by omega, HG.out, ?_⟩, hx2⟩
          intro p hp
          obtain ⟨i, hi, rfl⟩ := List.getElem_of_mem hp
          have := HP.out i (by have := HL.out; omega)
          rwa [show ps.getD i ⟨#[]⟩ = ps[i] by simp [List.getD, hi]] at this
end Go.Proofs.YtkbaappeakgnoaaGreatDoor
