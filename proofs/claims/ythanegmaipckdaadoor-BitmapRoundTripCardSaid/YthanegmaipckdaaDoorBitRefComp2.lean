/- The contract of the reference's Compress (layer 52): the walk. -/
import Derived.Test.YthanegmaipckdaaDoorBitCheck2
import Derived.Test.YthanegmaipckdaaDoorBitDec
import Derived.Test.YthanegmaipckdaaDoorGrow
import Derived.WalkSpells
import Derived.Deep.QuietTactic
import Derived.BigQuiet
import Derived.IntWalk
namespace Go.Proofs.YthanegmaipckdaaDoor
open Go.RowKit
open Go.Lib hiding intOf
attribute [local simp] Slots Slot look Is Oper.looksAt Op.operands Call.operands
set_option linter.unusedVariables false

set_option maxHeartbeats 4000000 in
set_option maxRecDepth 100000 in
theorem rCompress_any (A : Option Addr) (n cap : Nat) (rows : List ByteArray) (w : World) (hl : Lst w A n cap (rows.map .string)) (hz : ∀ r ∈ rows, r.size ≤ maxLen) :
    Calls Tryd.prog 16 #[.slice A n cap] w fun e w' => e = .returned (.tuple #[.string (BA (compZ rows).1), .int .i64 ((compZ rows).2.1 : Int), .int .i64 (compZ rows).2.2]) ∧ Ext w w' := by
  have hck := fun W (h : Lst W A n cap (rows.map .string)) => rbcheck_any A n cap rows W h hz
  by_cases h0 : picE rows = 0
  · have hR : compZ rows = (encB (runsB (catB rows)), widthB rows, 0) := by unfold compZ; rw [if_pos h0]
    rw [hR]
    obtain ⟨hne, h200, hrow⟩ := pic_facts h0
    rw [h0] at hck
    have hlen : n = rows.length := by simpa using hl.len
    have hroom := hl.room
    have hmax := hl.max
    unfold maxLen at hmax
    have hpos : 0 < rows.length := by cases rows with | nil => exact absurd rfl hne | cons _ _ => simp
    have CK := Lib.hid hck
    have HL := Lib.hid hl
    have HN := Lib.hid hlen
    have HRW := Lib.hid hrow
    have hw0 : widthB rows = (rows[0]'hpos).size := by
      cases rows with
      | nil => exact absurd rfl hne
      | cons r t => rfl
    have HW := Lib.hid hw0
    obtain ⟨EB, hEB⟩ : ∃ EB, EB = encB (runsB (catB rows)) := ⟨_, rfl⟩
    rw [← hEB]
    have HE0 := Lib.hid hEB
    clear hck hR h0 hl hz hlen hrow hw0 hEB
    go_enter Tryd.func16, Tryd.ntmps16
    go_wp2_with fail
    refine (CK.out _ HL.out).mono ?_
    rintro e w1 ⟨rfl, hx1⟩
    go_wp2_with fail
    go_loopw [6, 7] (fun tv i wr => ∃ k : Nat, k ≤ n ∧ i = .int .i64 k ∧ tv = .string (BA (catB (rows.take k))) ∧ (catB (rows.take k)).length ≤ k * 200 ∧ Ext w wr) (fun _ i _ => n - (intOf i).toNat)
    case atStart => exact ⟨0, Nat.zero_le _, rfl, rfl, Nat.le_refl _, hx1⟩
    case round =>
      obtain ⟨k, hk, rfl, rfl, hcl, hx⟩ := hrel
      by_cases hlt : k < n
      · have hkl : k < rows.length := by have := HN.out; omega
        obtain ⟨b, off, rfl, hc⟩ := HL.out.at_ (by omega)
        have hc1 := hx.cell (hc k (by rw [List.length_map]; exact hkl))
        rw [List.getElem_map] at hc1
        have hct := catB_take rows k hkl
        have hr := HRW.out rows[k] (List.getElem_mem hkl)
        have hba : Hid (BA (catB (rows.take k)) ++ rows[k] = BA (catB (rows.take (k + 1)))) := by
          show _ = _
          rw [hct, BA_append, BA_of]
        have hcl2 : (catB (rows.take (k + 1))).length ≤ (k + 1) * 200 := by
          rw [hct, List.length_append]
          have : rows[k].data.toList.length = rows[k].size := rfl
          omega
        have hs1 : (BA (catB (rows.take k))).size ≤ 40000 := by rw [BA_size]; omega
        have hs2 := hr.2.2.1
        generalize rows[k] = r at *
        generalize BA (catB (rows.take k)) = T at *
        clear hct hc hr
        go_wp2_with fail
        go_roundw
        case rel => exact ⟨k + 1, by omega, by go_num, by rw [← hba.out], hcl2, hx⟩
        case measure => simp [intOf]; omega
      · obtain rfl : k = n := by omega
        rw [List.take_of_length_le (by have := HN.out; omega)] at hcl ⊢
        obtain ⟨al, hal⟩ : ∃ al, al = BA (catB rows) := ⟨_, rfl⟩
        rw [← hal]
        have hald : al.data.toList = catB rows := by rw [hal, BA_data]
        have halz : al.size ≤ 40000 := by rw [hal, BA_size]; have := HN.out; omega
        have HEB : Hid (EB = encB (tailR al.data.toList 0 0)) := by show _ = _; rw [HE0.out, hald, tailR_zero]
        clear hal hald
        go_wp2_with fail
        go_loopw [8, 9, 10] (fun ov nv iv wr2 => ∃ (i m : Nat) (out : Bytes), i ≤ al.size ∧ m ≤ i ∧ iv = .int .i64 i ∧ nv = .int .i64 m ∧ ov = .string (BA out) ∧ out.length ≤ 50000 * i ∧ EB = out ++ encB (tailR al.data.toList i m) ∧ Ext w wr2) (fun _ _ iv _ => al.size - (intOf iv).toNat)
        case atStart => exact ⟨0, 0, [], Nat.zero_le _, Nat.zero_le _, rfl, rfl, rfl, Nat.zero_le _, HEB.out, hx⟩
        case round =>
          obtain ⟨i, m, out, hi, hm, rfl, rfl, rfl, hol, hE, hx2⟩ := hrel
          by_cases hlt2 : i < al.size
          · by_cases hla : i + 1 = al.size
            · have hb : ((i : Int) + 1 == (al.size : Int)) = true := by rw [beq_iff_eq]; omega
              have hdec : ∀ W, Calls Tryd.prog 30 #[.int .i64 ((m : Int) + 1)] W fun e w' => e = .returned (.string (BA (Lib.decDigits (m + 1)))) ∧ W = w' := fun W => dec_any (m + 1) (by omega) W
              have hdz : (BA (Lib.decDigits (m + 1))).size ≤ 40002 := by rw [BA_size]; have := decD_le (m + 1); omega
              have hext : Hid (al.extract i (i + 1) = BA [al[i]]) := by
                show _ = _
                exact bytes_inj (by rw [BA_data]; exact ext_oneB al i hlt2)
              have hxz : (al.extract i (i + 1)).size = 1 := by rw [hext.out]; rfl
              have hoz : (BA out).size ≤ 50000 * i := by rw [BA_size]; exact hol
              have hout : Hid (BA out ++ BA (Lib.decDigits (m + 1)) ++ al.extract i (i + 1) = BA (out ++ (Lib.decDigits (m + 1) ++ [al[i]]))) := by
                show _ = _
                rw [hext.out, ← BA_append, ← BA_append, List.append_assoc]
              have hol2 : (out ++ (Lib.decDigits (m + 1) ++ [al[i]])).length ≤ 50000 * (i + 1) := by
                have := decD_le (m + 1)
                simp only [List.length_append, List.length_cons, List.length_nil]
                omega
              have hlx : i + 1 ≤ al.size := by omega
              have hnx : Hid (EB = (out ++ (Lib.decDigits (m + 1) ++ [al[i]])) ++ encB (tailR al.data.toList (i + 1) 0)) := by
                show _ = _
                rw [hE, tailR_last al.data.toList i m (show i + 1 = al.data.toList.length from hla), tailR_end al.data.toList (i + 1) 0 (show al.data.toList.length ≤ i + 1 by have : al.data.toList.length = al.size := rfl; omega)]
                simp [encB]
                rfl
              have HDEC := Lib.hid hdec
              clear hdec hE
              generalize BA out = O at *
              generalize BA (Lib.decDigits (m + 1)) = DG at *
              generalize out ++ (Lib.decDigits (m + 1) ++ [al[i]]) = out2 at *
              go_wp2_with fail
              refine wp_region_grow (by kernel_rfl) (by kernel_rfl) ?_
              repeat
                first
                | (apply grow_is
                   case h =>
                    intro a w1 hg hs hsl
                    clear hs
                    try simp at hsl
                    try (first | (refine Exists.elim (row_spec hsl) ?_; rintro b ⟨hv, _, hh⟩) | (refine Exists.elim (row_spec hsl.1) ?_; rintro b ⟨hv, _, hh⟩))
                    unfold growAt guardOk
                    go_simp
                    try go_bits
                    try simp only [↓IntWalk.iteOmega]
                    first
                      | exact grow_same
                      | exact is_skip
                      | exact rfl)
              refine grow_fin ?_
              intro w1 hw1
              simp only [List.reverse_cons, List.reverse_nil, List.nil_append, List.cons_append, FinT, Is, forall_eq, List.setIfInBounds_toArray, List.set_cons_succ, List.set_cons_zero]
              have hy := hw1
              go_wp2_with fail
              refine wp_region_grow (by kernel_rfl) (by kernel_rfl) ?_
              repeat
                first
                | (apply grow_is
                   case h =>
                    intro a w1 hg hs hsl
                    clear hs
                    try simp at hsl
                    try (first | (refine Exists.elim (row_spec hsl) ?_; rintro b ⟨hv, _, hh⟩) | (refine Exists.elim (row_spec hsl.1) ?_; rintro b ⟨hv, _, hh⟩))
                    unfold growAt guardOk
                    go_simp
                    try go_bits
                    try simp only [↓IntWalk.iteOmega]
                    first
                      | exact grow_same
                      | exact is_skip
                      | exact rfl
                      | with_reducible exact grow_call_same (HDEC.out _))
              refine grow_fin ?_
              intro w1 hw1
              simp only [List.reverse_cons, List.reverse_nil, List.nil_append, List.cons_append, FinT, Is, forall_eq, List.setIfInBounds_toArray, List.set_cons_succ, List.set_cons_zero]
              go_wp2_with fail
              go_roundw
              case rel => exact ⟨i + 1, 0, out2, by omega, Nat.zero_le _, by go_num, rfl, by rw [← hout.out, hla], hol2, hnx.out, (hx2.trans hy).trans hw1⟩
              case measure => simp [intOf]; omega
            · have hl1 : i + 1 < al.size := by omega
              have hb : ((i : Int) + 1 == (al.size : Int)) = false := by rw [beq_eq_false_iff_ne]; omega
              by_cases hne2 : al[i + 1] = al[i]
              · have hq : ((((al[i + 1]).toNat : Nat) : Int) != (((al[i]).toNat : Nat) : Int)) = false := by rw [hne2]; simp
                have hnx : Hid (EB = out ++ encB (tailR al.data.toList (i + 1) (m + 1))) := by
                  show _ = _
                  rw [hE, tailR_same al.data.toList i m (show i + 1 < al.data.toList.length from hl1) hne2]
                clear hE hne2
                go_wp2_with fail
                refine wp_region_grow (by kernel_rfl) (by kernel_rfl) ?_
                repeat
                  first
                  | (apply grow_is
                     case h =>
                      intro a w1 hg hs hsl
                      clear hs
                      try simp at hsl
                      try (first | (refine Exists.elim (row_spec hsl) ?_; rintro b ⟨hv, _, hh⟩) | (refine Exists.elim (row_spec hsl.1) ?_; rintro b ⟨hv, _, hh⟩))
                      unfold growAt guardOk
                      go_simp
                      try go_bits
                      try simp only [↓IntWalk.iteOmega]
                      first
                        | exact grow_same
                        | exact is_skip
                        | exact rfl
                        | (rw [dif_pos (by omega)]; exact grow_same))
                refine grow_fin ?_
                intro w1 hw1
                simp only [List.reverse_cons, List.reverse_nil, List.nil_append, List.cons_append, FinT, Is, forall_eq, List.setIfInBounds_toArray, List.set_cons_succ, List.set_cons_zero]
                have hy := hw1
                go_wp2_with fail
                go_roundw
                case rel => exact ⟨i + 1, m + 1, out, by omega, by omega, by go_num, by go_num, rfl, by omega, hnx.out, hx2.trans hy⟩
                case measure => simp [intOf]; omega
              · have hq : ((((al[i + 1]).toNat : Nat) : Int) != (((al[i]).toNat : Nat) : Int)) = true := by
                  rw [bne_iff_ne]
                  intro e
                  exact hne2 (UInt8.toNat_inj.1 (by omega))
                have hdec : ∀ W, Calls Tryd.prog 30 #[.int .i64 ((m : Int) + 1)] W fun e w' => e = .returned (.string (BA (Lib.decDigits (m + 1)))) ∧ W = w' := fun W => dec_any (m + 1) (by omega) W
                have hdz : (BA (Lib.decDigits (m + 1))).size ≤ 40002 := by rw [BA_size]; have := decD_le (m + 1); omega
                have hext : Hid (al.extract i (i + 1) = BA [al[i]]) := by
                  show _ = _
                  exact bytes_inj (by rw [BA_data]; exact ext_oneB al i hlt2)
                have hxz : (al.extract i (i + 1)).size = 1 := by rw [hext.out]; rfl
                have hoz : (BA out).size ≤ 50000 * i := by rw [BA_size]; exact hol
                have hout : Hid (BA out ++ BA (Lib.decDigits (m + 1)) ++ al.extract i (i + 1) = BA (out ++ (Lib.decDigits (m + 1) ++ [al[i]]))) := by
                  show _ = _
                  rw [hext.out, ← BA_append, ← BA_append, List.append_assoc]
                have hol2 : (out ++ (Lib.decDigits (m + 1) ++ [al[i]])).length ≤ 50000 * (i + 1) := by
                  have := decD_le (m + 1)
                  simp only [List.length_append, List.length_cons, List.length_nil]
                  omega
                have hlx : i + 1 ≤ al.size := by omega
                have hnx : Hid (EB = (out ++ (Lib.decDigits (m + 1) ++ [al[i]])) ++ encB (tailR al.data.toList (i + 1) 0)) := by
                  show _ = _
                  rw [hE, tailR_new al.data.toList i m (show i + 1 < al.data.toList.length from hl1) hne2, encB_cons]
                  simp
                  rfl
                have HDEC := Lib.hid hdec
                clear hdec hE
                generalize BA out = O at *
                generalize BA (Lib.decDigits (m + 1)) = DG at *
                generalize out ++ (Lib.decDigits (m + 1) ++ [al[i]]) = out2 at *
                go_wp2_with fail
                refine wp_region_grow (by kernel_rfl) (by kernel_rfl) ?_
                repeat
                  first
                  | (apply grow_is
                     case h =>
                      intro a w1 hg hs hsl
                      clear hs
                      try simp at hsl
                      try (first | (refine Exists.elim (row_spec hsl) ?_; rintro b ⟨hv, _, hh⟩) | (refine Exists.elim (row_spec hsl.1) ?_; rintro b ⟨hv, _, hh⟩))
                      unfold growAt guardOk
                      go_simp
                      try go_bits
                      try simp only [↓IntWalk.iteOmega]
                      first
                        | exact grow_same
                        | exact is_skip
                        | exact rfl
                        | (rw [dif_pos (by omega)]; exact grow_same))
                refine grow_fin ?_
                intro w1 hw1
                simp only [List.reverse_cons, List.reverse_nil, List.nil_append, List.cons_append, FinT, Is, forall_eq, List.setIfInBounds_toArray, List.set_cons_succ, List.set_cons_zero]
                have hy := hw1
                go_wp2_with fail
                refine wp_region_grow (by kernel_rfl) (by kernel_rfl) ?_
                repeat
                  first
                  | (apply grow_is
                     case h =>
                      intro a w1 hg hs hsl
                      clear hs
                      try simp at hsl
                      try (first | (refine Exists.elim (row_spec hsl) ?_; rintro b ⟨hv, _, hh⟩) | (refine Exists.elim (row_spec hsl.1) ?_; rintro b ⟨hv, _, hh⟩))
                      unfold growAt guardOk
                      go_simp
                      try go_bits
                      try simp only [↓IntWalk.iteOmega]
                      first
                        | exact grow_same
                        | exact is_skip
                        | exact rfl
                        | with_reducible exact grow_call_same (HDEC.out _))
                refine grow_fin ?_
                intro w1 hw1
                simp only [List.reverse_cons, List.reverse_nil, List.nil_append, List.cons_append, FinT, Is, forall_eq, List.setIfInBounds_toArray, List.set_cons_succ, List.set_cons_zero]
                go_wp2_with fail
                go_roundw
                case rel => exact ⟨i + 1, 0, out2, by omega, Nat.zero_le _, by go_num, rfl, by rw [← hout.out], hol2, hnx.out, (hx2.trans hy).trans hw1⟩
                case measure => simp [intOf]; omega
          · obtain rfl : i = al.size := by omega
            have hfin : Hid (BA EB = BA out) := by
              show _ = _
              rw [hE, tailR_end al.data.toList al.size m (Nat.le_refl al.size)]
              simp [encB]
            obtain ⟨b, off, rfl, hc⟩ := HL.out.at_ (by have := HN.out; omega)
            have hc0 : wr.cell? ⟨b, off, none⟩ = some (.string (rows[0]'hpos)) := by
              have := hx2.cell (hc 0 (by rw [List.length_map]; exact hpos))
              rwa [List.getElem_map] at this
            have HWW : Hid (widthB rows = (rows[0]'hpos).size) := HW
            have hrz := (HRW.out (rows[0]'hpos) (List.getElem_mem hpos)).2.2.1
            generalize (rows[0]'hpos) = r0 at *
            have hk1 : 0 < k := by have := HN.out; omega
            have hk2 : (0 : Int) < (k : Int) := by omega
            clear hE hc
            generalize BA out = O at *
            go_wp2_with fail
            go_quiet (fail)
            go_wp2_with fail
            refine bodyPost_ret (v := .tuple #[.string O, .int .i64 (r0.size : Int), .int .i64 0]) (by simp [results, Tryd.results16, go_sem]) rfl ⟨by rw [hfin.out, HWW.out], hx2.drewN _⟩
  · have hR : compZ rows = ([], 0, picE rows) := by unfold compZ; rw [if_neg h0]
    rw [hR]
    have h0' : (picE rows != 0) = true := bne_iff_ne.2 h0
    generalize picE rows = z at *
    have CK := Lib.hid hck
    have HL := Lib.hid hl
    clear hck hR h0 hl hz
    go_enter Tryd.func16, Tryd.ntmps16
    go_wp2_with fail
    refine (CK.out _ HL.out).mono ?_
    rintro e w1 ⟨rfl, hx⟩
    go_wp2_with fail
    refine bodyPost_ret (v := .tuple #[.string (BA []), .int .i64 0, .int .i64 z]) (by simp [results, Tryd.results16, go_sem]; rfl) rfl ⟨rfl, hx⟩
end Go.Proofs.YthanegmaipckdaaDoor
