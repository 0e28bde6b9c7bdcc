/- The contracts of SameSymbols and of Same over strings. -/
import Derived.Test.YtimegcnpembhkaaDoorAsmLib
import Derived.Laws.StructEq
import Derived.Deep.QuietTactic
import Derived.BigQuiet
namespace Go.Proofs.YtimegcnpembhkaaDoor
open Go.RowKit
open Go.Lib hiding intOf
set_option linter.unusedVariables false

theorem sym_neq (x y : Hold) (w : World) :
    (binOp .neq 30 (.agg #[.string x.1, .int .i64 x.2]) (.agg #[.string y.1, .int .i64 y.2])).run Tryd.prog w = .ok (.bool (!(x.1.toList == y.1.toList && x.2 == y.2))) w := by
  have hu : Tryd.prog.underlying 30 = some (.struct (Tryd.prog.fieldsOf 30)) := by unfold Program.fieldsOf; rw [Tryd.underlying30]
  rw [run_neq_struct, run_equalIn_struct w 9999 _ _ _ hu (by kernel_rfl)]
  unfold Program.fieldsOf
  rw [Tryd.underlying30]
  by_cases h : x.1.toList = y.1.toList
  · by_cases h2 : x.2 = y.2
    · simp [Op.eqFields, go_sem, h, h2, Tryd.underlying9]
    · have h3 : (x.2 == y.2) = false := beq_eq_false_iff_ne.2 h2
      simp [Op.eqFields, go_sem, h, h3, Tryd.underlying9]
  · simp [Op.eqFields, go_sem, h]

theorem sym_eq_iff (x y : Hold) : (x.1.toList == y.1.toList && x.2 == y.2) = decide (x = y) := by
  obtain ⟨a, b⟩ := x
  obtain ⟨c, d⟩ := y
  rw [Bool.eq_iff_iff, decide_eq_true_iff]
  simp only [Bool.and_eq_true, beq_iff_eq, Prod.mk.injEq]
  constructor
  · rintro ⟨h, h2⟩
    refine ⟨?_, h2⟩
    exact bytes_inj (by rw [← ByteArray.toList_eq, ← ByteArray.toList_eq, h])
  · rintro ⟨rfl, rfl⟩
    exact ⟨rfl, rfl⟩

theorem sameSym_any (A B : Option Addr) (n m c d : Nat) (l k : List Hold) (w : World) (hl : HLst w A n c l) (hk : HLst w B m d k) :
    Calls Tryd.prog 14 #[.slice A n c, .slice B m d] w fun e w' => e = .returned (.bool (decide (l = k))) ∧ Ext w w' := by
  have hlen := hl.len
  have hroom := hl.room
  have hmax := hl.max
  have hlen2 := hk.len
  have hroom2 := hk.room
  have hmax2 := hk.max
  unfold maxLen at hmax hmax2
  obtain ⟨res, hres⟩ : ∃ b, b = decide (l = k) := ⟨_, rfl⟩
  rw [← hres]
  have HR := Lib.hid hres
  have HL := Lib.hid hlen
  have HL2 := Lib.hid hlen2
  clear hres hlen hlen2
  by_cases hnm : n = m
  · subst hnm
    go_enter Tryd.func14, Tryd.ntmps14
    go_wp2_with fail
    go_loopw [5] (fun i wr => ∃ j : Nat, j ≤ n ∧ i = .int .i64 j ∧ l.take j = k.take j ∧ Ext w wr) (fun i _ => n - (intOf i).toNat)
    case atStart => exact ⟨0, Nat.zero_le _, rfl, rfl, Ext.refl _⟩
    case round =>
      obtain ⟨j, hj, rfl, htake, hx⟩ := hrel
      have HT := Lib.hid htake
      clear htake
      by_cases hlt : j < n
      · obtain ⟨b1, o1, rfl, hc1⟩ := hl.at_ (by omega)
        obtain ⟨b2, o2, rfl, hc2⟩ := hk.at_ (by omega)
        have hj1 : j < l.length := by have := HL.out; omega
        have hj2 : j < k.length := by have := HL2.out; omega
        have e1 := hx.cell (hc1 j hj1).1
        have e2 := hx.cell (hc1 j hj1).2
        have e3 := hx.cell (hc2 j hj2).1
        have e4 := hx.cell (hc2 j hj2).2
        have hnext : Hid (l[j] = k[j] → l.take (j + 1) = k.take (j + 1)) := by
          intro h
          rw [List.take_succ_eq_append_getElem hj1, List.take_succ_eq_append_getElem hj2, HT.out, h]
        have hstop : Hid (¬ l[j] = k[j] → decide (l = k) = false) := by
          intro h
          rw [decide_eq_false_iff_not]
          intro h2
          apply h
          simp only [h2]
        generalize l[j] = x at e1 e2 hnext hstop
        generalize k[j] = y at e3 e4 hnext hstop
        have HC1 := Lib.hid hc1
        have HC2 := Lib.hid hc2
        clear hc1 hc2
        have hg : ∀ W, (eqGuard .neq 30 (.tmp 20) (.tmp 24) (.agg #[.string x.1, .int .i64 x.2]) (.agg #[.string y.1, .int .i64 y.2])).run Tryd.prog W = .ok () W := fun W => run_eqGuard_agg W .neq _ _ _ _ _ (by kernel_rfl)
        have hq : ∀ W, (binOp .neq 30 (.agg #[.string x.1, .int .i64 x.2]) (.agg #[.string y.1, .int .i64 y.2])).run Tryd.prog W = .ok (.bool (!(decide (x = y)))) W := fun W => by rw [sym_neq, sym_eq_iff]
        by_cases hxy : x = y
        · have hb : Hid (x = y) := hxy
          rw [decide_eq_true hxy] at hq
          clear hxy
          go_wp2_with fail
          go_quiet (fail)
          go_wp2_with fail
          go_roundw
          case rel => exact ⟨j + 1, by omega, by go_num, hnext.out hb.out, hx.drewN _⟩
          case measure => simp [intOf]; omega
        · have hb : Hid (¬ x = y) := hxy
          rw [decide_eq_false hxy] at hq
          clear hxy
          go_wp2_with fail
          go_quiet (fail)
          go_wp2_with fail
          go_ret
          exact ⟨ret_bool (by rw [HR.out, hstop.out hb.out]), hx.drewN _⟩
      · obtain rfl : j = n := by omega
        go_wp2_with fail
        go_ret
        refine ⟨ret_bool ?_, hx⟩
        have := HT.out
        rw [HL.out, List.take_length, ← HL.out, HL2.out, List.take_length] at this
        rw [HR.out, decide_eq_true this]
  · have hne : Hid (decide (l = k) = false) := by
      show _ = _
      rw [decide_eq_false_iff_not]
      intro h
      apply hnm
      rw [HL.out, HL2.out, h]
    have hb1 : ((n : Int) != (m : Int)) = true := bne_iff_ne.2 (by omega)
    go_enter Tryd.func14, Tryd.ntmps14
    go_wp2_with fail
    go_ret
    exact ⟨ret_bool (by rw [HR.out, hne.out]), Ext.refl _⟩

theorem sameStr_any (A B : Option Addr) (n m c d : Nat) (l k : List ByteArray) (w : World) (hl : Lst w A n c (l.map .string)) (hk : Lst w B m d (k.map .string)) :
    Calls Tryd.prog 18 #[.slice A n c, .slice B m d] w fun e w' => e = .returned (.bool (decide (l = k))) ∧ Ext w w' := by
  have hlen : n = l.length := by simpa using hl.len
  have hroom := hl.room
  have hmax := hl.max
  have hlen2 : m = k.length := by simpa using hk.len
  have hroom2 := hk.room
  have hmax2 := hk.max
  unfold maxLen at hmax hmax2
  obtain ⟨res, hres⟩ : ∃ b, b = decide (l = k) := ⟨_, rfl⟩
  rw [← hres]
  have HR := Lib.hid hres
  have HL := Lib.hid hlen
  have HL2 := Lib.hid hlen2
  clear hres hlen hlen2
  by_cases hnm : n = m
  · subst hnm
    go_enter Tryd.func18, Tryd.ntmps18
    go_wp2_with fail
    go_loopw [5] (fun i wr => ∃ j : Nat, j ≤ n ∧ i = .int .i64 j ∧ l.take j = k.take j ∧ Ext w wr) (fun i _ => n - (intOf i).toNat)
    case atStart => exact ⟨0, Nat.zero_le _, rfl, rfl, Ext.refl _⟩
    case round =>
      obtain ⟨j, hj, rfl, htake, hx⟩ := hrel
      have HT := Lib.hid htake
      clear htake
      by_cases hlt : j < n
      · obtain ⟨b1, o1, rfl, hc1⟩ := hl.at_ (by omega)
        obtain ⟨b2, o2, rfl, hc2⟩ := hk.at_ (by omega)
        have hj1 : j < l.length := by have := HL.out; omega
        have hj2 : j < k.length := by have := HL2.out; omega
        have e1 := hx.cell (hc1 j (by rw [List.length_map]; exact hj1))
        have e3 := hx.cell (hc2 j (by rw [List.length_map]; exact hj2))
        rw [List.getElem_map] at e1 e3
        have hnext : Hid (l[j] = k[j] → l.take (j + 1) = k.take (j + 1)) := by
          intro h
          rw [List.take_succ_eq_append_getElem hj1, List.take_succ_eq_append_getElem hj2, HT.out, h]
        have hstop : Hid (¬ l[j] = k[j] → decide (l = k) = false) := by
          intro h
          rw [decide_eq_false_iff_not]
          intro h2
          apply h
          simp only [h2]
        generalize l[j] = x at e1 hnext hstop
        generalize k[j] = y at e3 hnext hstop
        have HC1 := Lib.hid hc1
        have HC2 := Lib.hid hc2
        clear hc1 hc2
        by_cases hxy : x = y
        · have hb : Hid (x = y) := hxy
          have hq : (x.toList == y.toList) = true := by rw [hxy]; simp
          clear hxy
          go_wp2_with fail
          go_quiet (fail)
          go_wp2_with fail
          go_roundw
          case rel => exact ⟨j + 1, by omega, by go_num, hnext.out hb.out, hx.drewN _⟩
          case measure => simp [intOf]; omega
        · have hb : Hid (¬ x = y) := hxy
          have hq : (x.toList == y.toList) = false := by
            rw [beq_eq_false_iff_ne]
            intro e
            exact hxy (bytes_inj (by rw [← ByteArray.toList_eq, ← ByteArray.toList_eq, e]))
          clear hxy
          go_wp2_with fail
          go_quiet (fail)
          go_wp2_with fail
          go_ret
          exact ⟨ret_bool (by rw [HR.out, hstop.out hb.out]), hx.drewN _⟩
      · obtain rfl : j = n := by omega
        go_wp2_with fail
        go_ret
        refine ⟨ret_bool ?_, hx⟩
        have := HT.out
        rw [HL.out, List.take_length, ← HL.out, HL2.out, List.take_length] at this
        rw [HR.out, decide_eq_true this]
  · have hne : Hid (decide (l = k) = false) := by
      show _ = _
      rw [decide_eq_false_iff_not]
      intro h
      apply hnm
      rw [HL.out, HL2.out, h]
    have hb1 : ((n : Int) != (m : Int)) = true := bne_iff_ne.2 (by omega)
    go_enter Tryd.func18, Tryd.ntmps18
    go_wp2_with fail
    go_ret
    exact ⟨ret_bool (by rw [HR.out, hne.out]), Ext.refl _⟩
end Go.Proofs.YtimegcnpembhkaaDoor
