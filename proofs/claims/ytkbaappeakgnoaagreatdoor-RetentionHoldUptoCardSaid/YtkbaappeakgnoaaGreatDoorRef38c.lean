/- The contracts of the reference of layer 38: Valid. -/
import Derived.Test.YtkbaappeakgnoaaGreatDoorRef38b
namespace Go.Proofs.YtkbaappeakgnoaaGreatDoor
open Go.RowKit Go.Lib
set_option linter.unusedVariables false
attribute [local simp] Slots Slot look Is Oper.looksAt Op.operands Call.operands

/-- a hold of a list is valid -/
def good (l : List Hold) (i : Nat) : Prop :=
  chk (l.getD i default).1 = 0 ∧ 0 ≤ (l.getD i default).2 ∧ (l.getD i default).2 ≤ 1000000000 ∧ (0 < i → cmpP (l.getD (i - 1) default).1 (l.getD i default).1 < 0)

theorem getD_at (l : List Hold) (i : Nat) (h : i < l.length) : l.getD i default = l[i] := by simp [List.getD, h]

theorem good_chk {l : List Hold} {i : Nat} (h : good l i) (hi : i < l.length) : (l[i]).1.size ≤ 200 := by
  have h1 := h.1
  rw [getD_at l _ hi] at h1
  unfold chk at h1
  split at h1
  · omega
  · omega

set_option maxHeartbeats 4000000 in
set_option maxRecDepth 100000 in
theorem rvalid_any (A : Option Addr) (n cap : Nat) (l : List Hold) (w : World) (hl : HLst w A n cap l) (hz : ∀ h ∈ l, h.1.size ≤ maxLen) :
    Calls Tryz.prog 15 #[.slice A n cap] w fun e w' => ∃ r : Int, e = .returned (.int .i64 r) ∧ (r = 0 ∨ r = 1) ∧ (r = 1 → ∀ i, i < l.length → good l i) ∧ Ext w w' := by
  have hlen := hl.len
  have hroom := hl.room
  have hmax := hl.max
  unfold maxLen at hmax
  have HL := Lib.hid hlen
  clear hlen
  go_enter Tryz.func15, Tryz.ntmps15
  go_wp2_with fail
  go_loopw [3] (fun i wr => ∃ k : Nat, k ≤ n ∧ i = .int .i64 k ∧ (∀ i, i < k → good l i) ∧ Ext w wr) (fun i _ => n - (intOf i).toNat)
  case atStart => exact ⟨0, Nat.zero_le _, rfl, fun i hi => absurd hi (Nat.not_lt_zero _), Ext.refl _⟩
  case round =>
    obtain ⟨k, hk, rfl, hgood, hx⟩ := hrel
    have HG := Lib.hid hgood
    clear hgood
    by_cases hlt : k < n
    · obtain ⟨b, off, rfl, hc⟩ := hl.at_ (by omega)
      have hkl : k < l.length := by have := HL.out; omega
      have hc1 := hx.cell (hc k hkl).1
      have hc2 := hx.cell (hc k hkl).2
      have hz1 := hz l[k] (List.getElem_mem hkl)
      have hpre : Hid (chk l[k].1 = 0 → 0 ≤ l[k].2 → l[k].2 ≤ 1000000000 → (0 < k → cmpP (l.getD (k - 1) default).1 l[k].1 < 0) → ∀ i, i < k + 1 → good l i) := by
        intro g1 g2 g3 g4 i hi
        by_cases hik : i < k
        · exact HG.out i hik
        · obtain rfl : i = k := by omega
          unfold good
          rw [getD_at l _ hkl]
          exact ⟨g1, g2, g3, g4⟩
      have hchk := fun W => rcheck_any l[k].1 W hz1
      have hsm : chk l[k].1 = 0 → l[k].1.size ≤ 200 := by
        intro h
        unfold chk at h
        split at h
        · omega
        · omega
      by_cases h1 : chk l[k].1 = 0
      · have hsz := hsm h1
        by_cases hk0 : 0 < k
        · have hkl1 : k - 1 < l.length := by omega
          have hd1 := hx.cell (hc (k - 1) hkl1).1
          have hsz0 := good_chk (HG.out (k - 1) (by omega)) hkl1
          rw [getD_at l _ hkl1] at hpre
          have hcmp := fun W => rcompare_any l[k-1].1 l[k].1 W (by omega) (by omega)
          generalize hcv : cmpP l[k-1].1 l[k].1 = c at hcmp hpre
          generalize l[k-1].1 = q at hd1 hsz0 hcmp hcv
          rw [h1] at hchk
          have H1 := Lib.hid h1
          generalize l[k].2 = u at hc2 hpre
          generalize l[k].1 = p at hc1 hz1 hpre hchk hsm H1 hsz hcmp hcv
          have HZ := Lib.hid hcv
          have HC := Lib.hid hc
          have HK := Lib.hid hchk
          have HM := Lib.hid hcmp
          clear hcv hc hchk hcmp hsm h1
          have hkk : ((k : Int) - 1) = ((k - 1 : Nat) : Int) := by omega
          have hb0 : decide (0 < (k : Int)) = true := decide_eq_true (by omega)
          by_cases h2 : u < 0
          · have hb2 : decide (u < 0) = true := decide_eq_true h2
            go_wp2_with fail
            refine wp_region_grow (by kernel_rfl) (by kernel_rfl) ?_
            repeat
              first
              | (apply grow_is
                 case h =>
                  intro a w1 hg hs hsl
                  clear hs
                  try simp at hsl
                  try (first | (refine Exists.elim (row_spec hsl) ?_; rintro b ⟨hv, _, hh⟩) | (refine Exists.elim (row_spec hsl.1) ?_; rintro b ⟨hv, _, hh⟩))
                  have hc1 := hg.cell hc1
                  have hc2 := hg.cell hc2
                  have hd1 := hg.cell hd1
                  unfold growAt guardOk
                  go_simp
                  try go_bits
                  try simp only [↓IntWalk.iteOmega]
                  first
                    | exact grow_same
                    | exact is_skip
                    | exact rfl
                    | with_reducible exact grow_call_ext (HK.out _))
            refine grow_fin ?_
            intro w1 hw1
            simp only [List.reverse_cons, List.reverse_nil, List.nil_append, List.cons_append, FinT, Is, forall_eq, List.setIfInBounds_toArray, List.set_cons_succ, List.set_cons_zero]
            go_wp2_with fail
            go_ret
            exact ⟨0, rfl, Or.inl rfl, fun h => absurd h (by decide), hx.trans hw1⟩
          · have hb2 : decide (u < 0) = false := decide_eq_false h2
            by_cases h3 : 1000000000 < u
            · have hb3 : decide (1000000000 < u) = true := decide_eq_true h3
              go_wp2_with fail
              refine wp_region_grow (by kernel_rfl) (by kernel_rfl) ?_
              repeat
                first
                | (apply grow_is
                   case h =>
                    intro a w1 hg hs hsl
                    clear hs
                    try simp at hsl
                    try (first | (refine Exists.elim (row_spec hsl) ?_; rintro b ⟨hv, _, hh⟩) | (refine Exists.elim (row_spec hsl.1) ?_; rintro b ⟨hv, _, hh⟩))
                    have hc1 := hg.cell hc1
                    have hc2 := hg.cell hc2
                    have hd1 := hg.cell hd1
                    unfold growAt guardOk
                    go_simp
                    try go_bits
                    try simp only [↓IntWalk.iteOmega]
                    first
                      | exact grow_same
                      | exact is_skip
                      | exact rfl
                      | with_reducible exact grow_call_ext (HK.out _))
              refine grow_fin ?_
              intro w1 hw1
              simp only [List.reverse_cons, List.reverse_nil, List.nil_append, List.cons_append, FinT, Is, forall_eq, List.setIfInBounds_toArray, List.set_cons_succ, List.set_cons_zero]
              go_wp2_with fail
              go_ret
              exact ⟨0, rfl, Or.inl rfl, fun h => absurd h (by decide), hx.trans hw1⟩
            · have hb3 : decide (1000000000 < u) = false := decide_eq_false h3
              by_cases h4 : 0 ≤ c
              · have hb4 : decide (0 ≤ c) = true := decide_eq_true h4
                go_wp2_with fail
                refine wp_region_grow (by kernel_rfl) (by kernel_rfl) ?_
                repeat
                  first
                  | (apply grow_is
                     case h =>
                      intro a w1 hg hs hsl
                      clear hs
                      try simp at hsl
                      try (first | (refine Exists.elim (row_spec hsl) ?_; rintro b ⟨hv, _, hh⟩) | (refine Exists.elim (row_spec hsl.1) ?_; rintro b ⟨hv, _, hh⟩))
                      have hc1 := hg.cell hc1
                      have hc2 := hg.cell hc2
                      have hd1 := hg.cell hd1
                      unfold growAt guardOk
                      go_simp
                      try go_bits
                      try simp only [↓IntWalk.iteOmega]
                      first
                        | exact grow_same
                        | exact is_skip
                        | exact rfl
                        | with_reducible exact grow_call_ext (HK.out _)
                        | with_reducible exact grow_call_ext (HM.out _))
                refine grow_fin ?_
                intro w1 hw1
                simp only [List.reverse_cons, List.reverse_nil, List.nil_append, List.cons_append, FinT, Is, forall_eq, List.setIfInBounds_toArray, List.set_cons_succ, List.set_cons_zero]
                go_wp2_with fail
                go_ret
                exact ⟨0, rfl, Or.inl rfl, fun h => absurd h (by decide), hx.trans hw1⟩
              · have hb4 : decide (0 ≤ c) = false := decide_eq_false h4
                go_wp2_with fail
                refine wp_region_grow (by kernel_rfl) (by kernel_rfl) ?_
                repeat
                  first
                  | (apply grow_is
                     case h =>
                      intro a w1 hg hs hsl
                      clear hs
                      try simp at hsl
                      try (first | (refine Exists.elim (row_spec hsl) ?_; rintro b ⟨hv, _, hh⟩) | (refine Exists.elim (row_spec hsl.1) ?_; rintro b ⟨hv, _, hh⟩))
                      have hc1 := hg.cell hc1
                      have hc2 := hg.cell hc2
                      have hd1 := hg.cell hd1
                      unfold growAt guardOk
                      go_simp
                      try go_bits
                      try simp only [↓IntWalk.iteOmega]
                      first
                        | exact grow_same
                        | exact is_skip
                        | exact rfl
                        | with_reducible exact grow_call_ext (HK.out _)
                        | with_reducible exact grow_call_ext (HM.out _))
                refine grow_fin ?_
                intro w1 hw1
                simp only [List.reverse_cons, List.reverse_nil, List.nil_append, List.cons_append, FinT, Is, forall_eq, List.setIfInBounds_toArray, List.set_cons_succ, List.set_cons_zero]
                go_wp2_with fail
                go_roundw
                case rel => exact ⟨k + 1, by omega, by go_num, hpre.out H1.out (by omega) (by omega) (fun _ => by omega), hx.trans hw1⟩
                case measure => simp [intOf]; omega
        · have hb0 : decide (0 < (k : Int)) = false := decide_eq_false (by omega)
          rw [h1] at hchk
          have H1 := Lib.hid h1
          generalize l[k].2 = u at hc2 hpre
          generalize l[k].1 = p at hc1 hz1 hpre hchk hsm H1 hsz
          have HC := Lib.hid hc
          have HK := Lib.hid hchk
          clear hc hchk hsm h1
          by_cases h2 : u < 0
          · have hb2 : decide (u < 0) = true := decide_eq_true h2
            go_wp2_with fail
            refine wp_region_grow (by kernel_rfl) (by kernel_rfl) ?_
            repeat
              first
              | (apply grow_is
                 case h =>
                  intro a w1 hg hs hsl
                  clear hs
                  try simp at hsl
                  try (first | (refine Exists.elim (row_spec hsl) ?_; rintro b ⟨hv, _, hh⟩) | (refine Exists.elim (row_spec hsl.1) ?_; rintro b ⟨hv, _, hh⟩))
                  have hc1 := hg.cell hc1
                  have hc2 := hg.cell hc2
                  unfold growAt guardOk
                  go_simp
                  try go_bits
                  try simp only [↓IntWalk.iteOmega]
                  first
                    | exact grow_same
                    | exact is_skip
                    | exact rfl
                    | with_reducible exact grow_call_ext (HK.out _))
            refine grow_fin ?_
            intro w1 hw1
            simp only [List.reverse_cons, List.reverse_nil, List.nil_append, List.cons_append, FinT, Is, forall_eq, List.setIfInBounds_toArray, List.set_cons_succ, List.set_cons_zero]
            go_wp2_with fail
            go_ret
            exact ⟨0, rfl, Or.inl rfl, fun h => absurd h (by decide), hx.trans hw1⟩
          · have hb2 : decide (u < 0) = false := decide_eq_false h2
            by_cases h3 : 1000000000 < u
            · have hb3 : decide (1000000000 < u) = true := decide_eq_true h3
              go_wp2_with fail
              refine wp_region_grow (by kernel_rfl) (by kernel_rfl) ?_
              repeat
                first
                | (apply grow_is
                   case h =>
                    intro a w1 hg hs hsl
                    clear hs
                    try simp at hsl
                    try (first | (refine Exists.elim (row_spec hsl) ?_; rintro b ⟨hv, _, hh⟩) | (refine Exists.elim (row_spec hsl.1) ?_; rintro b ⟨hv, _, hh⟩))
                    have hc1 := hg.cell hc1
                    have hc2 := hg.cell hc2
                    unfold growAt guardOk
                    go_simp
                    try go_bits
                    try simp only [↓IntWalk.iteOmega]
                    first
                      | exact grow_same
                      | exact is_skip
                      | exact rfl
                      | with_reducible exact grow_call_ext (HK.out _))
              refine grow_fin ?_
              intro w1 hw1
              simp only [List.reverse_cons, List.reverse_nil, List.nil_append, List.cons_append, FinT, Is, forall_eq, List.setIfInBounds_toArray, List.set_cons_succ, List.set_cons_zero]
              go_wp2_with fail
              go_ret
              exact ⟨0, rfl, Or.inl rfl, fun h => absurd h (by decide), hx.trans hw1⟩
            · have hb3 : decide (1000000000 < u) = false := decide_eq_false h3
              go_wp2_with fail
              refine wp_region_grow (by kernel_rfl) (by kernel_rfl) ?_
              repeat
                first
                | (apply grow_is
                   case h =>
                    intro a w1 hg hs hsl
                    clear hs
                    try simp at hsl
                    try (first | (refine Exists.elim (row_spec hsl) ?_; rintro b ⟨hv, _, hh⟩) | (refine Exists.elim (row_spec hsl.1) ?_; rintro b ⟨hv, _, hh⟩))
                    have hc1 := hg.cell hc1
                    have hc2 := hg.cell hc2
                    unfold growAt guardOk
                    go_simp
                    try go_bits
                    try simp only [↓IntWalk.iteOmega]
                    first
                      | exact grow_same
                      | exact is_skip
                      | exact rfl
                      | with_reducible exact grow_call_ext (HK.out _))
              refine grow_fin ?_
              intro w1 hw1
              simp only [List.reverse_cons, List.reverse_nil, List.nil_append, List.cons_append, FinT, Is, forall_eq, List.setIfInBounds_toArray, List.set_cons_succ, List.set_cons_zero]
              go_wp2_with fail
              go_roundw
              case rel => exact ⟨k + 1, by omega, by go_num, hpre.out H1.out (by omega) (by omega) (fun h => absurd h hk0), hx.trans hw1⟩
              case measure => simp [intOf]; omega
      · have hb : (chk l[k].1 != 0) = true := bne_iff_ne.2 h1
        generalize chk l[k].1 = cc at hchk hb
        generalize l[k].1 = p at hc1 hchk hz1
        have HP := Lib.hid hpre
        have HK := Lib.hid hchk
        have HC := Lib.hid hc
        clear hpre hsm h1 hc hchk
        go_wp2_with fail
        refine wp_region_grow (by kernel_rfl) (by kernel_rfl) ?_
        repeat
          first
          | (apply grow_is
             case h =>
              intro a w1 hg hs hsl
              clear hs
              try simp at hsl
              try (first | (refine Exists.elim (row_spec hsl) ?_; rintro b ⟨hv, _, hh⟩) | (refine Exists.elim (row_spec hsl.1) ?_; rintro b ⟨hv, _, hh⟩))
              have hc1 := hg.cell hc1
              have hc2 := hg.cell hc2
              unfold growAt guardOk
              go_simp
              try go_bits
              try simp only [↓IntWalk.iteOmega]
              first
                | exact grow_same
                | exact is_skip
                | exact rfl
                | with_reducible exact grow_call_ext (HK.out _))
        refine grow_fin ?_
        intro w1 hw1
        simp only [List.reverse_cons, List.reverse_nil, List.nil_append, List.cons_append, FinT, Is, forall_eq, List.setIfInBounds_toArray, List.set_cons_succ, List.set_cons_zero]
        go_wp2_with fail
        go_ret
        exact ⟨0, rfl, Or.inl rfl, fun h => absurd h (by decide), hx.trans hw1⟩
    · obtain rfl : k = n := by omega
      go_wp2_with fail
      go_ret
      exact ⟨1, rfl, Or.inr rfl, fun _ i hi => HG.out i (by have := HL.out; omega), hx⟩
end Go.Proofs.YtkbaappeakgnoaaGreatDoor
