/- The contracts of the reference of layer 38: Held, Allowed, Active, Same, Valid. -/
import Derived.Test.YtkbaappeakgnoaaDoorRetWalk
import Derived.Laws.StructEq
namespace Go.Proofs.YtkbaappeakgnoaaDoor
open Go.RowKit Go.Lib
set_option linter.unusedVariables false
attribute [local simp] Slots Slot look Is Oper.looksAt Op.operands Call.operands

set_option maxHeartbeats 1000000 in
theorem rheld_any (p : ByteArray) (date : Int) (A : Option Addr) (n cap : Nat) (l : List Hold) (w : World) (hl : HLst w A n cap l) (hp : p.size ≤ maxLen) (hs : Short l) :
    Calls Tryd.prog 10 #[.slice A n cap, .string p, .int .i64 date] w fun e w' => e = .returned (.bool (heldB l p date)) ∧ Ext w w' := by
  have hlen := hl.len
  have hroom := hl.room
  have hmax := hl.max
  unfold maxLen at hmax
  obtain ⟨res, hres⟩ : ∃ b, b = heldB l p date := ⟨_, rfl⟩
  rw [← hres]
  unfold heldB at hres
  have HR := Lib.hid hres
  have HL := Lib.hid hlen
  clear hlen hres
  go_enter Tryd.func10, Tryd.ntmps10
  go_wp2_with fail
  go_loopw [7] (fun i wr => ∃ k : Nat, k ≤ n ∧ i = .int .i64 k ∧ (l.take k).any (fun h => inForce date h && under p h.1) = false ∧ Ext w wr) (fun i _ => n - (intOf i).toNat)
  case atStart => exact ⟨0, Nat.zero_le _, rfl, rfl, Ext.refl _⟩
  case round =>
    obtain ⟨k, hk, rfl, hany, hx⟩ := hrel
    have HA := Lib.hid hany
    clear hany
    by_cases hlt : k < n
    · obtain ⟨b, off, rfl, hc⟩ := hl.at_ (by omega)
      have hkl : k < l.length := by have := HL.out; omega
      have hc1 := hx.cell (hc k hkl).1
      have hc2 := hx.cell (hc k hkl).2
      have HM := hs l[k] (List.getElem_mem hkl)
      have hfilt : Hid ((l.take (k + 1)).any (fun h => inForce date h && under p h.1) = (inForce date l[k] && under p l[k].1)) := by
        show _ = _
        rw [List.take_succ_eq_append_getElem hkl, List.any_append, HA.out]
        simp
      have hfin : Hid ((inForce date l[k] && under p l[k].1) = true → l.any (fun h => inForce date h && under p h.1) = true) := by
        intro h
        rw [List.any_eq_true]
        exact ⟨l[k], List.getElem_mem hkl, h⟩
      generalize l[k] = h at hc1 hc2 hfilt hfin HM
      have HC := Lib.hid hc
      clear hc
      by_cases hf : date ≤ h.2
      · have hf' : Hid (inForce date h = true) := decide_eq_true hf
        go_wp2_with fail
        refine (runder_any p h.1 _ hp (by unfold maxLen; omega)).mono ?_
        rintro e w1 ⟨rfl, hx1⟩
        have hx2 := hx.trans hx1
        cases hu : under p h.1
        · go_wp2_with fail
          go_roundw
          case rel => exact ⟨k + 1, by omega, by go_num, by rw [hfilt.out, hu, Bool.and_false], hx2⟩
          case measure => simp [intOf]; omega
        · go_wp2_with fail
          go_ret
          exact ⟨ret_bool (by rw [HR.out, hfin.out (by rw [hf'.out, hu]; rfl)]), hx2⟩
      · have hf' : Hid (inForce date h = false) := decide_eq_false hf
        go_wp2_with fail
        go_roundw
        case rel => exact ⟨k + 1, by omega, by go_num, by rw [hfilt.out, hf'.out, Bool.false_and], hx⟩
        case measure => simp [intOf]; omega
    · obtain rfl : k = n := by omega
      go_wp2_with fail
      go_ret
      refine ⟨ret_bool ?_, hx⟩
      have := HA.out
      rw [HL.out, List.take_length] at this
      rw [HR.out, this]

set_option maxHeartbeats 2000000 in
set_option maxRecDepth 100000 in
theorem rallowed_any (kind : Int) (p : ByteArray) (a2 a3 a4 a5 a6 : Value) (date : Int) (A : Option Addr) (n cap : Nat) (l : List Hold) (w : World) (hl : HLst w A n cap l) (hp : p.size ≤ maxLen) (hs : Short l) :
    Calls Tryd.prog 12 #[.slice A n cap, .agg #[.int .i64 kind, .string p, a2, a3, a4, a5, a6], .int .i64 date] w fun e w' => e = .returned (.int .i64 (allowZ l kind p date)) ∧ Ext w w' := by
  have hheld := fun W (hW : HLst W A n cap l) => rheld_any p date A n cap l W hW hp hs
  obtain ⟨res, hres⟩ : ∃ z, z = allowZ l kind p date := ⟨_, rfl⟩
  rw [← hres]
  have HHELD := Lib.hid hheld
  clear hheld
  unfold allowZ at hres
  have hx0 : Ext w (w.alloc (.cells #[.int .i64 kind, .string p, a2, a3, a4, a5, a6] 26)) := (Ext.refl w).alloc _
  have hcell : ∀ W, Ext (w.alloc (.cells #[.int .i64 kind, .string p, a2, a3, a4, a5, a6] 26)) W → W.cell? ⟨w.heap.size, 0, none⟩ = some (.int .i64 kind) := fun W h => h.cell (by simp)
  have HCELL := Lib.hid hcell
  clear hcell
  by_cases hk : kind = 1 ∨ kind = 2 ∨ kind = 3
  · rw [if_pos hk] at hres
    cases hb : heldB l p date
    all_goals
      rw [hb] at hres HHELD
      have HR := Lib.hid hres
      clear hres hb
      rcases hk with rfl | rfl | rfl
      all_goals
        go_enter Tryd.func12, Tryd.ntmps12
        go_wp2_with fail
        refine (HHELD.out _ (hl.ext hx0)).mono ?_
        rintro e w1 ⟨rfl, hx⟩
        have hb1 := HCELL.out _ hx
        go_wp2_with fail
        go_ret
        exact ⟨ret_int (by rw [HR.out]; rfl), hx0.trans hx⟩
  · rw [if_neg hk] at hres
    have k1 : (kind == 1) = false := by simp; omega
    have k2 : (kind == 2) = false := by simp; omega
    have k3 : (kind == 3) = false := by simp; omega
    by_cases h4 : kind = 4
    · rw [if_pos h4] at hres
      subst h4
      clear hk k1 k2 k3
      cases hb : heldB l p date
      · rw [hb] at hres HHELD
        rw [Bool.false_or] at hres
        have HR := Lib.hid hres
        clear hres hb
        have hlen := hl.len
        have hroom := hl.room
        have hmax := hl.max
        unfold maxLen at hmax
        have HL := Lib.hid hlen
        clear hlen
        go_enter Tryd.func12, Tryd.ntmps12
        go_wp2_with fail
        refine (HHELD.out _ (hl.ext hx0)).mono ?_
        rintro e w1 ⟨rfl, hx⟩
        have hb0 : w1.cell? ⟨w.heap.size, 0, none⟩ = some (.int .i64 4) := hx.cell (by simp)
        have hb1 : w1.cell? ⟨w.heap.size, 1, none⟩ = some (.string p) := hx.cell (by simp)
        have hxx := hx0.trans hx
        have hlt1 := hl.ext hxx
        clear hx
        go_wp2_with fail
        go_loopw [8] (fun i wr => ∃ k : Nat, k ≤ n ∧ i = .int .i64 k ∧ (l.take k).any (fun h => inForce date h && under h.1 p) = false ∧ Ext w1 wr) (fun i _ => n - (intOf i).toNat)
        case atStart => exact ⟨0, Nat.zero_le _, rfl, rfl, Ext.refl _⟩
        case round =>
          obtain ⟨k, hk, rfl, hany, hxr⟩ := hrel
          have HA := Lib.hid hany
          clear hany
          by_cases hlt : k < n
          · obtain ⟨b, off, rfl, hc⟩ := hlt1.at_ (by omega)
            have hkl : k < l.length := by have := HL.out; omega
            have hc1 := hxr.cell (hc k hkl).1
            have hc2 := hxr.cell (hc k hkl).2
            have hd1 := hxr.cell hb1
            have HM := hs l[k] (List.getElem_mem hkl)
            have hfilt : Hid ((l.take (k + 1)).any (fun h => inForce date h && under h.1 p) = (inForce date l[k] && under l[k].1 p)) := by
              show _ = _
              rw [List.take_succ_eq_append_getElem hkl, List.any_append, HA.out]
              simp
            have hfin : Hid ((inForce date l[k] && under l[k].1 p) = true → belowB l p date = true) := by
              intro h
              unfold belowB
              rw [List.any_eq_true]
              exact ⟨l[k], List.getElem_mem hkl, h⟩
            generalize l[k] = h at hc1 hc2 hfilt hfin HM
            have HC := Lib.hid hc
            clear hc
            have HB0 := Lib.hid hb0
            have HB1 := Lib.hid hb1
            clear hb0 hb1
            have hu1 := fun W => runder_any h.1 p W (by unfold maxLen; omega) hp
            by_cases hf : date ≤ h.2
            · have hf' : Hid (inForce date h = true) := decide_eq_true hf
              cases hu : under h.1 p
              · rw [hu] at hu1
                have HU := Lib.hid hu1
                clear hu1
                go_wp2_with fail
                refine wp_region_grow (by kernel_rfl) (by kernel_rfl) ?_
                repeat
                  first
                  | (apply grow_is
                     case h =>
                      intro a w1 hg hs hsl
                      clear hs
                      simp at hsl
                      try (first | (refine Exists.elim (row_spec hsl) ?_; rintro b ⟨hv, _, hh⟩) | (refine Exists.elim (row_spec hsl.1) ?_; rintro b ⟨hv, _, hh⟩))
                      have hc1 := hg.cell hc1
                      have hc2 := hg.cell hc2
                      have hd1 := hg.cell hd1
                      unfold growAt guardOk
                      go_simp
                      try go_bits
                      try simp only [↓IntWalk.iteOmega]
                      first
                        | exact grow_same
                        | exact is_skip
                        | exact rfl
                        | with_reducible exact grow_call_ext (HU.out _))
                refine grow_fin ?_
                intro w1 hw1
                simp only [List.reverse_cons, List.reverse_nil, List.nil_append, List.cons_append, FinT, Is, forall_eq, List.setIfInBounds_toArray, List.set_cons_succ, List.set_cons_zero]
                go_wp2_with fail
                go_roundw
                case rel => exact ⟨k + 1, by omega, by go_num, by rw [hfilt.out, hu, Bool.and_false], hxr.trans hw1⟩
                case measure => simp [intOf]; omega
              · rw [hu] at hu1
                have HU := Lib.hid hu1
                clear hu1
                go_wp2_with fail
                refine wp_region_grow (by kernel_rfl) (by kernel_rfl) ?_
                repeat
                  first
                  | (apply grow_is
                     case h =>
                      intro a w1 hg hs hsl
                      clear hs
                      simp at hsl
                      try (first | (refine Exists.elim (row_spec hsl) ?_; rintro b ⟨hv, _, hh⟩) | (refine Exists.elim (row_spec hsl.1) ?_; rintro b ⟨hv, _, hh⟩))
                      have hc1 := hg.cell hc1
                      have hc2 := hg.cell hc2
                      have hd1 := hg.cell hd1
                      unfold growAt guardOk
                      go_simp
                      try go_bits
                      try simp only [↓IntWalk.iteOmega]
                      first
                        | exact grow_same
                        | exact is_skip
                        | exact rfl
                        | with_reducible exact grow_call_ext (HU.out _))
                refine grow_fin ?_
                intro w1 hw1
                simp only [List.reverse_cons, List.reverse_nil, List.nil_append, List.cons_append, FinT, Is, forall_eq, List.setIfInBounds_toArray, List.set_cons_succ, List.set_cons_zero]
                go_wp2_with fail
                go_ret
                exact ⟨ret_int (by rw [HR.out, hfin.out (by rw [hf'.out, hu]; rfl)]; rfl), hxx.trans (hxr.trans hw1)⟩
            · have hf' : Hid (inForce date h = false) := decide_eq_false hf
              have hf2 : decide (date ≤ h.2) = false := decide_eq_false hf
              clear hu1
              go_wp2_with fail
              refine wp_region_grow (by kernel_rfl) (by kernel_rfl) ?_
              repeat
                first
                | (apply grow_is
                   case h =>
                    intro a w1 hg hs hsl
                    clear hs
                    simp at hsl
                    try (first | (refine Exists.elim (row_spec hsl) ?_; rintro b ⟨hv, _, hh⟩) | (refine Exists.elim (row_spec hsl.1) ?_; rintro b ⟨hv, _, hh⟩))
                    have hc1 := hg.cell hc1
                    have hc2 := hg.cell hc2
                    have hd1 := hg.cell hd1
                    unfold growAt guardOk
                    go_simp
                    try go_bits
                    try simp only [↓IntWalk.iteOmega]
                    first
                      | exact grow_same
                      | exact is_skip
                      | exact rfl)
              refine grow_fin ?_
              intro w1 hw1
              simp only [List.reverse_cons, List.reverse_nil, List.nil_append, List.cons_append, FinT, Is, forall_eq, List.setIfInBounds_toArray, List.set_cons_succ, List.set_cons_zero]
              go_wp2_with fail
              go_roundw
              case rel => exact ⟨k + 1, by omega, by go_num, by rw [hfilt.out, hf'.out, Bool.false_and], hxr.trans hw1⟩
              case measure => simp [intOf]; omega
          · obtain rfl : k = n := by omega
            go_wp2_with fail
            go_ret
            refine ⟨ret_int ?_, hxx.trans hxr⟩
            have := HA.out
            rw [HL.out, List.take_length] at this
            rw [HR.out]
            unfold belowB
            rw [this]; rfl
      · rw [hb] at hres HHELD
        rw [Bool.true_or] at hres
        have HR := Lib.hid hres
        clear hres hb
        go_enter Tryd.func12, Tryd.ntmps12
        go_wp2_with fail
        refine (HHELD.out _ (hl.ext hx0)).mono ?_
        rintro e w1 ⟨rfl, hx⟩
        go_wp2_with fail
        go_ret
        exact ⟨ret_int (by rw [HR.out]; rfl), hx0.trans hx⟩
    · rw [if_neg h4] at hres
      have k4 : (kind == 4) = false := by simp; omega
      have HR := Lib.hid hres
      clear hk h4 hres
      go_enter Tryd.func12, Tryd.ntmps12
      go_wp2_with fail
      go_ret
      exact ⟨ret_int (by rw [HR.out]), hx0⟩
end Go.Proofs.YtkbaappeakgnoaaDoor
