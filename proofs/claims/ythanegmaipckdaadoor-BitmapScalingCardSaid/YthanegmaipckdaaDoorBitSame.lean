/- The contracts of the reference's Same and Great (layer 52). -/
import Derived.Test.YthanegmaipckdaaDoorMem
import Derived.Test.YthanegmaipckdaaDoorProg
import Derived.Test.YthanegmaipckdaaDoorSplit
import Derived.Lib.Hide
import Derived.Deep.QuietTactic
import Derived.BigQuiet
namespace Go.Proofs.YthanegmaipckdaaDoor
open Go.RowKit
open Go.Lib
set_option linter.unusedVariables false

theorem ret_boolS {a b : Bool} (h : a = b) : Ending.returned (.bool a) = .returned (.bool b) := by rw [h]
theorem str_eq_iff (x y : ByteArray) : (x.toList == y.toList) = decide (x = y) := by
  rw [Bool.eq_iff_iff, decide_eq_true_iff, beq_iff_eq]
  constructor
  · intro h
    exact bytes_inj (by rw [← ByteArray.toList_eq, ← ByteArray.toList_eq, h])
  · rintro rfl; rfl

set_option maxHeartbeats 2000000 in
set_option maxRecDepth 100000 in
theorem rsame_any (A B : Option Addr) (n m c d : Nat) (l k : List ByteArray) (w : World) (hl : Lst w A n c (l.map .string)) (hk : Lst w B m d (k.map .string)) :
    Calls Tryd.prog 13 #[.slice A n c, .slice B m d] w fun e w' => e = .returned (.bool (decide (l = k))) ∧ Ext w w' := by
  have hlen : n = l.length := by simpa using hl.len
  have hroom := hl.room
  have hmax := hl.max
  have hlen2 : m = k.length := by simpa using hk.len
  have hroom2 := hk.room
  have hmax2 := hk.max
  unfold maxLen at hmax hmax2
  obtain ⟨res, hres⟩ : ∃ b, b = decide (l = k) := ⟨_, rfl⟩
  rw [← hres]
  have HR := Lib.hid hres
  have HL := Lib.hid hlen
  have HL2 := Lib.hid hlen2
  clear hres hlen hlen2
  by_cases hnm : n = m
  · subst hnm
    go_enter Tryd.func13, Tryd.ntmps13
    go_wp2_with fail
    go_loopw [5] (fun i wr => ∃ j : Nat, j ≤ n ∧ i = .int .i64 j ∧ l.take j = k.take j ∧ Ext w wr) (fun i _ => n - (intOf i).toNat)
    case atStart => exact ⟨0, Nat.zero_le _, rfl, rfl, Ext.refl _⟩
    case round =>
      obtain ⟨j, hj, rfl, htake, hx⟩ := hrel
      have HT := Lib.hid htake
      clear htake
      by_cases hlt : j < n
      · obtain ⟨b1, o1, rfl, hc1⟩ := hl.at_ (by omega)
        obtain ⟨b2, o2, rfl, hc2⟩ := hk.at_ (by omega)
        have hj1 : j < l.length := by have := HL.out; omega
        have hj2 : j < k.length := by have := HL2.out; omega
        have e1 := hx.cell (hc1 j (by rw [List.length_map]; exact hj1))
        have e3 := hx.cell (hc2 j (by rw [List.length_map]; exact hj2))
        rw [List.getElem_map] at e1 e3
        have hnext : Hid (l[j] = k[j] → l.take (j + 1) = k.take (j + 1)) := by
          intro h
          rw [List.take_succ_eq_append_getElem hj1, List.take_succ_eq_append_getElem hj2, HT.out, h]
        have hstop : Hid (¬ l[j] = k[j] → decide (l = k) = false) := by
          intro h
          rw [decide_eq_false_iff_not]
          intro h2
          apply h
          simp only [h2]
        generalize l[j] = x at e1 hnext hstop
        generalize k[j] = y at e3 hnext hstop
        have HC1 := Lib.hid hc1
        have HC2 := Lib.hid hc2
        have hq := str_eq_iff x y
        clear hc1 hc2
        by_cases hxy : x = y
        · have hb : Hid (x = y) := hxy
          rw [decide_eq_true hxy] at hq
          have hq' : x.toList = y.toList := by simpa using hq
          clear hxy
          go_wp2_with fail
          go_quiet (fail)
          go_wp2_with fail
          go_roundw
          case rel => exact ⟨j + 1, by omega, by go_num, hnext.out hb.out, hx.drewN _⟩
          case measure => simp [intOf]; omega
        · have hb : Hid (¬ x = y) := hxy
          rw [decide_eq_false hxy] at hq
          have hq' : ¬ x.toList = y.toList := by simpa using hq
          clear hxy
          go_wp2_with fail
          go_quiet (fail)
          go_wp2_with fail
          go_ret
          exact ⟨ret_boolS (by rw [HR.out, hstop.out hb.out]), hx.drewN _⟩
      · obtain rfl : j = n := by omega
        go_wp2_with fail
        go_ret
        refine ⟨ret_boolS ?_, hx⟩
        have := HT.out
        rw [HL.out, List.take_length, ← HL.out, HL2.out, List.take_length] at this
        rw [HR.out, decide_eq_true this]
  · have hne : Hid (decide (l = k) = false) := by
      show _ = _
      rw [decide_eq_false_iff_not]
      intro h
      apply hnm
      rw [HL.out, HL2.out, h]
    have hb1 : ((n : Int) != (m : Int)) = true := bne_iff_ne.2 (by omega)
    go_enter Tryd.func13, Tryd.ntmps13
    go_wp2_with fail
    go_ret
    exact ⟨ret_boolS (by rw [HR.out, hne.out]), Ext.refl _⟩

/-- Great answers 0, and then the rows are few and short, or 1 -/
def ZeroOne (S : Prop) (w : World) (e : Ending) (w' : World) : Prop := ∃ g : Int, ((g = 0 ∧ S) ∨ g = 1) ∧ e = .returned (.int .i64 g) ∧ Ext w w'
theorem zero_of {S : Prop} {w w' : World} (hS : S) (h : Ext w w') : ZeroOne S w (.returned (.int .i64 0)) w' := ⟨0, Or.inl ⟨rfl, hS⟩, rfl, h⟩
theorem one_of {S : Prop} {w w' : World} (h : Ext w w') : ZeroOne S w (.returned (.int .i64 1)) w' := ⟨1, Or.inr rfl, rfl, h⟩
def SmallR (l : List ByteArray) : Prop := l.length ≤ 201 ∧ ∀ r ∈ l, r.size ≤ 300
theorem small_mk {l : List ByteArray} {n : Nat} (hn : n = l.length) (h1 : n ≤ 201) (h2 : ∀ i (h : i < l.length), i < n → l[i].size ≤ 300) : SmallR l := by
  refine ⟨by omega, fun r hr => ?_⟩
  obtain ⟨i, hi, rfl⟩ := List.mem_iff_getElem.1 hr
  exact h2 i hi (by omega)

set_option maxHeartbeats 2000000 in
set_option maxRecDepth 100000 in
theorem great_any (A : Option Addr) (n c : Nat) (l : List ByteArray) (w : World) (hl : Lst w A n c (l.map .string)) (hz : ∀ r ∈ l, r.size ≤ maxLen) :
    Calls Tryd.prog 14 #[.slice A n c] w (ZeroOne (SmallR l) w) := by
  have hlen : n = l.length := by simpa using hl.len
  have hroom := hl.room
  have hmax := hl.max
  unfold maxLen at hmax
  have HL := Lib.hid hlen
  have HZ := Lib.hid hz
  have HH := Lib.hid hl
  clear hlen hz hl
  by_cases g0 : (40 : Int) < n
  · by_cases g1 : n = 201
    · subst g1
      go_enter Tryd.func14, Tryd.ntmps14
      go_wp2_with fail
      go_loopw [3] (fun i wr => ∃ j : Nat, j ≤ 201 ∧ i = .int .i64 j ∧ Hid (∀ i (h : i < l.length), i < j → l[i].size ≤ 300) ∧ Ext w wr) (fun i _ => 201 - (intOf i).toNat)
      case atStart => exact ⟨0, Nat.zero_le _, rfl, (fun i h hi => absurd hi (Nat.not_lt_zero _)), Ext.refl _⟩
      case round =>
        obtain ⟨j, hj, rfl, hsm, hx⟩ := hrel
        by_cases hlt : j < 201
        · obtain ⟨b1, o1, rfl, hc1⟩ := HH.out.at_ (by omega)
          have hj1 : j < l.length := by have := HL.out; omega
          have e1 := hx.cell (hc1 j (by rw [List.length_map]; exact hj1))
          rw [List.getElem_map] at e1
          have hsz := HZ.out l[j] (List.getElem_mem hj1)
          have hnx : Hid (l[j].size ≤ 300 → ∀ i (h : i < l.length), i < j + 1 → l[i].size ≤ 300) := fun h i hi hij => by
            by_cases e : i = j
            · subst e; exact h
            · exact hsm.out i hi (by omega)
          generalize l[j] = x at *
          unfold maxLen at hsz
          have HC1 := Lib.hid hc1
          clear hc1
          by_cases g3 : (300 : Int) < x.size
          · go_wp2_with fail
            go_ret
            exact one_of hx
          · by_cases g4 : (3 : Int) < x.size
            · go_wp2_with fail
              go_ret
              exact one_of hx
            · go_wp2_with fail
              go_roundw
              case rel => exact ⟨j + 1, by omega, by go_num, hnx.out (by omega), hx⟩
              case measure => simp [intOf]; omega
        · obtain rfl : j = 201 := by omega
          go_wp2_with fail
          go_ret
          exact zero_of (small_mk HL.out (by omega) hsm.out) hx
    · have g1' : ((n : Int) != 201) = true := bne_iff_ne.2 (by omega)
      have g1'' : ¬ ((n : Int) = 201) := by omega
      go_enter Tryd.func14, Tryd.ntmps14
      go_wp2_with fail
      go_ret
      exact one_of (Ext.refl _)
  · go_enter Tryd.func14, Tryd.ntmps14
    go_wp2_with fail
    go_loopw [3] (fun i wr => ∃ j : Nat, j ≤ n ∧ i = .int .i64 j ∧ Hid (∀ i (h : i < l.length), i < j → l[i].size ≤ 300) ∧ Ext w wr) (fun i _ => n - (intOf i).toNat)
    case atStart => exact ⟨0, Nat.zero_le _, rfl, (fun i h hi => absurd hi (Nat.not_lt_zero _)), Ext.refl _⟩
    case round =>
      obtain ⟨j, hj, rfl, hsm, hx⟩ := hrel
      by_cases hlt : j < n
      · obtain ⟨b1, o1, rfl, hc1⟩ := HH.out.at_ (by omega)
        have hj1 : j < l.length := by have := HL.out; omega
        have e1 := hx.cell (hc1 j (by rw [List.length_map]; exact hj1))
        rw [List.getElem_map] at e1
        have hsz := HZ.out l[j] (List.getElem_mem hj1)
        have hnx : Hid (l[j].size ≤ 300 → ∀ i (h : i < l.length), i < j + 1 → l[i].size ≤ 300) := fun h i hi hij => by
          by_cases e : i = j
          · subst e; exact h
          · exact hsm.out i hi (by omega)
        generalize l[j] = x at *
        unfold maxLen at hsz
        have HC1 := Lib.hid hc1
        clear hc1
        by_cases g3 : (300 : Int) < x.size
        · go_wp2_with fail
          go_ret
          exact one_of hx
        · go_wp2_with fail
          go_roundw
          case rel => exact ⟨j + 1, by omega, by go_num, hnx.out (by omega), hx⟩
          case measure => simp [intOf]; omega
      · obtain rfl : j = n := by omega
        go_wp2_with fail
        go_ret
        exact zero_of (small_mk HL.out (by omega) hsm.out) hx
end Go.Proofs.YthanegmaipckdaaDoor
