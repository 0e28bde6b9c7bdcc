/- The contracts of the reference of layer 38: Active, Same, Valid. -/
import Derived.Test.YtkbaappeakgnoaaGreatDoorRef38
import Derived.Laws.StructEq
namespace Go.Proofs.YtkbaappeakgnoaaGreatDoor
open Go.RowKit Go.Lib
set_option linter.unusedVariables false
attribute [local simp] Slots Slot look Is Oper.looksAt Op.operands Call.operands


theorem hold_neq (x y : Hold) (w : World) :
    (binOp .neq 44 (.agg #[.string x.1, .int .i64 x.2]) (.agg #[.string y.1, .int .i64 y.2])).run Tryz.prog w = .ok (.bool (!(x.1.toList == y.1.toList && x.2 == y.2))) w := by
  have hu : Tryz.prog.underlying 44 = some (.struct (Tryz.prog.fieldsOf 44)) := by unfold Program.fieldsOf; rw [Tryz.underlying44]
  rw [run_neq_struct, run_equalIn_struct w 9999 _ _ _ hu (by kernel_rfl)]
  unfold Program.fieldsOf
  rw [Tryz.underlying44]
  by_cases h : x.1.toList = y.1.toList
  · by_cases h2 : x.2 = y.2
    · simp [Op.eqFields, go_sem, h, h2, Tryz.underlying9]
    · have h3 : (x.2 == y.2) = false := beq_eq_false_iff_ne.2 h2
      simp [Op.eqFields, go_sem, h, h3, Tryz.underlying9]
  · simp [Op.eqFields, go_sem, h]

theorem hold_eq_iff (x y : Hold) : (x.1.toList == y.1.toList && x.2 == y.2) = decide (x = y) := by
  obtain ⟨a, b⟩ := x
  obtain ⟨c, d⟩ := y
  rw [Bool.eq_iff_iff, decide_eq_true_iff]
  simp only [Bool.and_eq_true, beq_iff_eq, Prod.mk.injEq]
  constructor
  · rintro ⟨h, h2⟩
    refine ⟨?_, h2⟩
    exact bytes_inj (by rw [← ByteArray.toList_eq, ← ByteArray.toList_eq, h])
  · rintro ⟨rfl, rfl⟩
    exact ⟨rfl, rfl⟩

theorem rsame_any (A B : Option Addr) (n m c d : Nat) (l k : List Hold) (w : World) (hl : HLst w A n c l) (hk : HLst w B m d k) :
    Calls Tryz.prog 13 #[.slice A n c, .slice B m d] w fun e w' => e = .returned (.bool (decide (l = k))) ∧ Ext w w' := by
  have hlen := hl.len
  have hroom := hl.room
  have hmax := hl.max
  have hlen2 := hk.len
  have hroom2 := hk.room
  have hmax2 := hk.max
  unfold maxLen at hmax hmax2
  obtain ⟨res, hres⟩ : ∃ b, b = decide (l = k) := ⟨_, rfl⟩
  rw [← hres]
  have HR := Lib.hid hres
  have HL := Lib.hid hlen
  have HL2 := Lib.hid hlen2
  clear hres hlen hlen2
  by_cases hnm : n = m
  · subst hnm
    go_enter Tryz.func13, Tryz.ntmps13
    go_wp2_with fail
    go_loopw [5] (fun i wr => ∃ j : Nat, j ≤ n ∧ i = .int .i64 j ∧ l.take j = k.take j ∧ Ext w wr) (fun i _ => n - (intOf i).toNat)
    case atStart => exact ⟨0, Nat.zero_le _, rfl, rfl, Ext.refl _⟩
    case round =>
      obtain ⟨j, hj, rfl, htake, hx⟩ := hrel
      have HT := Lib.hid htake
      clear htake
      by_cases hlt : j < n
      · obtain ⟨b1, o1, rfl, hc1⟩ := hl.at_ (by omega)
        obtain ⟨b2, o2, rfl, hc2⟩ := hk.at_ (by omega)
        have hj1 : j < l.length := by have := HL.out; omega
        have hj2 : j < k.length := by have := HL2.out; omega
        have e1 := hx.cell (hc1 j hj1).1
        have e2 := hx.cell (hc1 j hj1).2
        have e3 := hx.cell (hc2 j hj2).1
        have e4 := hx.cell (hc2 j hj2).2
        have hnext : Hid (l[j] = k[j] → l.take (j + 1) = k.take (j + 1)) := by
          intro h
          rw [List.take_succ_eq_append_getElem hj1, List.take_succ_eq_append_getElem hj2, HT.out, h]
        have hstop : Hid (¬ l[j] = k[j] → decide (l = k) = false) := by
          intro h
          rw [decide_eq_false_iff_not]
          intro h2
          apply h
          simp only [h2]
        generalize l[j] = x at e1 e2 hnext hstop
        generalize k[j] = y at e3 e4 hnext hstop
        have HC1 := Lib.hid hc1
        have HC2 := Lib.hid hc2
        clear hc1 hc2
        have hg : ∀ W, (eqGuard .neq 44 (.tmp 20) (.tmp 24) (.agg #[.string x.1, .int .i64 x.2]) (.agg #[.string y.1, .int .i64 y.2])).run Tryz.prog W = .ok () W := fun W => run_eqGuard_agg W .neq _ _ _ _ _ (by kernel_rfl)
        have hq : ∀ W, (binOp .neq 44 (.agg #[.string x.1, .int .i64 x.2]) (.agg #[.string y.1, .int .i64 y.2])).run Tryz.prog W = .ok (.bool (!(decide (x = y)))) W := fun W => by rw [hold_neq, hold_eq_iff]
        by_cases hxy : x = y
        · have hb : Hid (x = y) := hxy
          rw [decide_eq_true hxy] at hq
          clear hxy
          go_wp2_with fail
          go_quiet (fail)
          go_wp2_with fail
          go_roundw
          case rel => exact ⟨j + 1, by omega, by go_num, hnext.out hb.out, hx.drewN _⟩
          case measure => simp [intOf]; omega
        · have hb : Hid (¬ x = y) := hxy
          rw [decide_eq_false hxy] at hq
          clear hxy
          go_wp2_with fail
          go_quiet (fail)
          go_wp2_with fail
          go_ret
          exact ⟨ret_bool (by rw [HR.out, hstop.out hb.out]), hx.drewN _⟩
      · obtain rfl : j = n := by omega
        go_wp2_with fail
        go_ret
        refine ⟨ret_bool ?_, hx⟩
        have := HT.out
        rw [HL.out, List.take_length, ← HL.out, HL2.out, List.take_length] at this
        rw [HR.out, decide_eq_true this]
  · have hne : Hid (decide (l = k) = false) := by
      show _ = _
      rw [decide_eq_false_iff_not]
      intro h
      apply hnm
      rw [HL.out, HL2.out, h]
    have hb1 : ((n : Int) != (m : Int)) = true := bne_iff_ne.2 (by omega)
    go_enter Tryz.func13, Tryz.ntmps13
    go_wp2_with fail
    go_ret
    exact ⟨ret_bool (by rw [HR.out, hne.out]), Ext.refl _⟩
end Go.Proofs.YtkbaappeakgnoaaGreatDoor
