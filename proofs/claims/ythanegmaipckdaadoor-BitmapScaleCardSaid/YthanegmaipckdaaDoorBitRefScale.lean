/- The contract of the reference's Scale (layer 52). -/
import Derived.Test.YthanegmaipckdaaDoorBitCheck2
import Derived.Test.YthanegmaipckdaaDoorBitScaleP
import Derived.Test.YthanegmaipckdaaDoorBitRefExp
import Derived.WalkSpells
import Derived.IntWalk
namespace Go.Proofs.YthanegmaipckdaaDoor
open Go.RowKit
open Go.Lib hiding intOf
set_option linter.unusedVariables false

theorem scaled_step (k : Nat) (hk : 1 ≤ k) (rows : List ByteArray) (i : Nat) (h : i < rows.length * k) :
    (scaledB k rows).take (i + 1) = (scaledB k rows).take i ++ [wideB k (rows[i / k]'(by rw [Nat.div_lt_iff_lt_mul (by omega)]; exact h)).data.toList] := by
  rw [List.take_add_one, scaled_get k hk rows i h]; rfl
theorem wide_step (k : Nat) (hk : 1 ≤ k) (r : List UInt8) (i : Nat) (h : i < r.length * k) :
    (wideB k r).take (i + 1) = (wideB k r).take i ++ [r[i / k]'(by rw [Nat.div_lt_iff_lt_mul (by omega)]; exact h)] := by
  rw [List.take_add_one, wide_get k hk r i h]; rfl
theorem int_div {i k q : Nat} (h : q = i / k) : (i : Int) / (k : Int) = (q : Int) := by rw [h, Int.natCast_ediv]

set_option maxHeartbeats 8000000 in
set_option maxRecDepth 100000 in
theorem rscale_any (A : Option Addr) (n cap : Nat) (rows : List ByteArray) (factor : Int) (w : World) (hl : Lst w A n cap (rows.map .string)) (hz : ∀ r ∈ rows, r.size ≤ maxLen) :
    Calls Tryd.prog 19 #[.slice A n cap, .int .i64 factor] w (RowsPost w (scaleA rows factor).1 (scaleA rows factor).2) := by
  have hck := fun W (h : Lst W A n cap (rows.map .string)) => rbcheck_any A n cap rows W h hz
  have HL := Lib.hid hl
  by_cases h0 : picE rows = 0
  case neg =>
    have hR : scaleA rows factor = ([], picE rows) := by unfold scaleA; rw [if_pos h0]
    rw [hR]
    have h0' : (picE rows != 0) = true := bne_iff_ne.2 h0
    generalize picE rows = z at *
    have CK := Lib.hid hck
    clear hck hR h0 hl hz
    go_enter Tryd.func19, Tryd.ntmps19
    go_wp2_with fail
    refine (CK.out _ HL.out).mono ?_
    rintro e w1 ⟨rfl, hx⟩
    go_wp2_with fail
    refine bodyPost_ret (v := .tuple #[.slice none 0 0, .int .i64 z]) (by simp [results, Tryd.results19, go_sem]) rfl (rows_err _ _ _ _ rfl hx)
  obtain ⟨hne, h200, hrow⟩ := pic_facts h0
  rw [h0] at hck
  have hlen : n = rows.length := by simpa using hl.len
  have hroom := hl.room
  have hmax := hl.max
  unfold maxLen at hmax
  have hpos : 0 < rows.length := by cases rows with | nil => exact absurd rfl hne | cons _ _ => simp
  have hw0 : widthB rows = (rows[0]'hpos).size := by
    cases rows with
    | nil => exact absurd rfl hne
    | cons r t => rfl
  obtain ⟨b, off, rfl, hc⟩ := hl.at_ (by omega)
  have CK := Lib.hid hck
  by_cases h1 : factor < 1 ∨ 8 < factor
  · have hR : scaleA rows factor = ([], 2) := by unfold scaleA; rw [if_neg (fun e => e h0), if_pos h1]
    rw [hR]
    clear hR hck hl hz hrow hlen hw0 h0 hc
    rcases h1 with h1 | h1
    · go_enter Tryd.func19, Tryd.ntmps19
      go_wp2_with fail
      refine (CK.out _ HL.out).mono ?_
      rintro e w1 ⟨rfl, hx⟩
      go_wp2_with fail
      refine bodyPost_ret (v := .tuple #[.slice none 0 0, .int .i64 2]) (by simp [results, Tryd.results19, go_sem]) rfl (rows_err _ _ _ _ rfl hx)
    · have h2 : ¬ factor < 1 := by omega
      go_enter Tryd.func19, Tryd.ntmps19
      go_wp2_with fail
      refine (CK.out _ HL.out).mono ?_
      rintro e w1 ⟨rfl, hx⟩
      go_wp2_with fail
      refine bodyPost_ret (v := .tuple #[.slice none 0 0, .int .i64 2]) (by simp [results, Tryd.results19, go_sem]) rfl (rows_err _ _ _ _ rfl hx)
  obtain ⟨k, rfl⟩ := Int.eq_ofNat_of_zero_le (show 0 ≤ factor by omega)
  have hk1 : 1 ≤ k := by omega
  have hk8 : k ≤ 8 := by omega
  have hcell0 : w.cell? ⟨b, off, none⟩ = some (.string (rows[0]'hpos)) := by
    have := hc 0 (by rw [List.length_map]; exact hpos)
    rwa [List.getElem_map] at this
  have hn0 : 0 < n := by omega
  have hn200 : n ≤ 200 := by omega
  have hr0 := (hrow (rows[0]'hpos) (List.getElem_mem hpos)).2.2.1
  have hR : scaleA rows k = if 200 < n * k ∨ 200 < (rows[0]'hpos).size * k then ([], 6) else (scaledB k rows, 0) := by unfold scaleA; rw [if_neg (fun e => e h0), if_neg h1, Int.toNat_natCast, hw0, ← hlen]
  rw [hR]
  have hrw : ∀ r ∈ rows, r.size = (rows[0]'hpos).size := fun r hr => by rw [← hw0]; exact (hrow r hr).1
  generalize (rows[0]'hpos) = r0 at *
  obtain ⟨P1, hP1⟩ : ∃ P1, P1 = n * k := ⟨_, rfl⟩
  obtain ⟨P2, hP2⟩ : ∃ P2, P2 = r0.size * k := ⟨_, rfl⟩
  rw [← hP1, ← hP2]
  have hm1 : (k : Int) * (n : Int) = (P1 : Int) := by rw [hP1, Int.natCast_mul, Int.mul_comm]
  have hm2 : (k : Int) * (r0.size : Int) = (P2 : Int) := by rw [hP2, Int.natCast_mul, Int.mul_comm]
  have hb1 : P1 ≤ 1600 := by rw [hP1]; exact Nat.mul_le_mul hn200 hk8
  have hb2 : P2 ≤ 1600 := by rw [hP2]; exact Nat.mul_le_mul hr0 hk8
  have HP1 := Lib.hid hP1
  have HP2 := Lib.hid hP2
  have HRW := Lib.hid hrw
  have HN := Lib.hid hlen
  have HC := Lib.hid hc
  have hne1 : ¬ ((k : Int) < 1) := by omega
  have hne2 : ¬ ((8 : Int) < (k : Int)) := by omega
  clear hck hl hz hrow hlen hw0 h0 hc hP1 hP2 hR h1 hrw
  by_cases h3 : 200 < P1
  · rw [if_pos (Or.inl h3)]
    have h3' : decide (200 < (P1 : Int)) = true := decide_eq_true (by omega)
    go_enter Tryd.func19, Tryd.ntmps19
    go_wp2_with fail
    refine (CK.out _ HL.out).mono ?_
    rintro e w1 ⟨rfl, hx⟩
    go_wp2_with fail
    refine bodyPost_ret (v := .tuple #[.slice none 0 0, .int .i64 6]) (by simp [results, Tryd.results19, go_sem]) rfl (rows_err _ _ _ _ rfl hx)
  by_cases h4 : 200 < P2
  · rw [if_pos (Or.inr h4)]
    have h3' : decide (200 < (P1 : Int)) = false := decide_eq_false (by omega)
    have h4' : decide (200 < (P2 : Int)) = true := decide_eq_true (by omega)
    go_enter Tryd.func19, Tryd.ntmps19
    go_wp2_with fail
    refine (CK.out _ HL.out).mono ?_
    rintro e w1 ⟨rfl, hx⟩
    have hc1 := hx.cell hcell0
    go_wp2_with fail
    refine bodyPost_ret (v := .tuple #[.slice none 0 0, .int .i64 6]) (by simp [results, Tryd.results19, go_sem]) rfl (rows_err _ _ _ _ rfl hx)
  rw [if_neg (by omega)]
  have h3' : decide (200 < (P1 : Int)) = false := decide_eq_false (by omega)
  have h4' : decide (200 < (P2 : Int)) = false := decide_eq_false (by omega)
  go_enter Tryd.func19, Tryd.ntmps19
  go_wp2_with fail
  refine (CK.out _ HL.out).mono ?_
  rintro e w1 ⟨rfl, hx⟩
  have hc1 := hx.cell hcell0
  go_wp2_with fail
  go_loopw [7, 8] (fun ov iv wr => ∃ i : Nat, iv = .int .i64 i ∧ i ≤ P1 ∧ wr.ownsRow w.heap.size 9 1 ov i (((scaledB k rows).take i).map fun r => .string (BA r)) ∧ Ext w wr) (fun _ iv _ => P1 - (intOf iv).toNat)
  case atStart => exact ⟨0, rfl, Nat.zero_le _, World.ownsRow_nil _ _ _ _, hx⟩
  case round =>
    obtain ⟨i, rfl, hi, hown, hx⟩ := hrel
    have HO := Lib.hid hown
    have hc2 := hx.cell hcell0
    clear hown
    by_cases hlt : i < P1
    · have hink : i < rows.length * k := by have h := HP1.out; rw [HN.out] at h; omega
      obtain ⟨q, hq⟩ : ∃ q, q = i / k := ⟨_, rfl⟩
      have hqn : q < n := by rw [hq, Nat.div_lt_iff_lt_mul (by omega), ← HP1.out]; exact hlt
      have hqi := int_div hq
      have hql : q < rows.length := by have := HN.out; omega
      have hst := scaled_step k hk1 rows i hink
      simp only [← hq] at hst
      have hcq0 := HC.out q (by rw [List.length_map]; exact hql)
      rw [List.getElem_map] at hcq0
      have hsz := HRW.out rows[q] (List.getElem_mem hql)
      generalize rows[q] = r at *
      have hrp : r.size * k = P2 := by rw [hsz, HP2.out]
      have HST := Lib.hid hst
      have HRP := Lib.hid hrp
      have hrl : Hid (r.data.toList.length = r.size) := rfl
      have hrz : r.size ≤ 200 := by omega
      clear hst hsz hrp hq hink
      go_wp2_with fail
      go_loopw [9, 10] (fun rv jv wr => ∃ j : Nat, jv = .int .i64 j ∧ j ≤ P2 ∧ rv = .string (BA ((wideB k r.data.toList).take j)) ∧ wr.ownsRow w.heap.size 9 1 u7 i (((scaledB k rows).take i).map fun r => .string (BA r)) ∧ Ext w wr) (fun _ jv _ => P2 - (intOf jv).toNat)
      case atStart => exact ⟨0, rfl, Nat.zero_le _, rfl, HO.out, hx⟩
      case round =>
        obtain ⟨j, rfl, hj, rfl, hown, hxj⟩ := hrel
        have HO := Lib.hid hown
        have hc3 := hxj.cell hcell0
        have hcq := hxj.cell hcq0
        clear hown
        by_cases hjl : j < P2
        · have hjk : j < r.data.toList.length * k := by rw [hrl.out, HRP.out]; exact hjl
          obtain ⟨a, ha⟩ : ∃ a, a = j / k := ⟨_, rfl⟩
          have har : a < r.size := by rw [ha, Nat.div_lt_iff_lt_mul (by omega), HRP.out]; exact hjl
          have hai := int_div ha
          have hws := wide_step k hk1 r.data.toList j hjk
          simp only [← ha] at hws
          have hext : Hid (BA ((wideB k r.data.toList).take j) ++ r.extract a (a + 1) = BA ((wideB k r.data.toList).take (j + 1))) := by
            show _ = _
            rw [hws, BA_append]
            congr 1
            exact bytes_inj (by rw [ext_oneB r a har, BA_data]; rfl)
          have hxz : (r.extract a (a + 1)).size = 1 := by
            have := congrArg List.length (ext_oneB r a har)
            exact this
          have htz : (BA ((wideB k r.data.toList).take j)).size ≤ 1600 := by rw [BA_size, List.length_take]; omega
          have har2 : a + 1 ≤ r.size := har
          generalize BA ((wideB k r.data.toList).take j) = T at *
          clear hjk ha hws
          go_wp2_with fail
          go_quiet (fail)
          go_wp2_with fail
          go_roundw
          case rel => exact ⟨j + 1, by go_num, by omega, by rw [← hext.out], own_ext HO.out ((Ext.refl _).drewN _), hxj.drewN _⟩
          case measure => simp [intOf]; omega
        · obtain rfl : j = P2 := by omega
          have hfull : Hid ((wideB k r.data.toList).take j = wideB k r.data.toList) := List.take_of_length_le (by rw [wide_len, hrl.out, HRP.out]; exact Nat.le_refl _)
          rw [hfull.out]
          have hmm : Hid (((scaledB k rows).take (i + 1)).map (fun r => Value.string (BA r)) = ((scaledB k rows).take i).map (fun r => Value.string (BA r)) ++ [.string (BA (wideB k r.data.toList))]) := by
            show _ = _
            rw [HST.out, List.map_append]; rfl
          generalize BA (wideB k r.data.toList) = X at *
          obtain ⟨i0, hi0, hz0, hz1, hz2⟩ := info_parts Tryd.infoStr
          have hi := hi0
          go_wp2_with (at_builtin; refine wpList_append_own _ rfl (.tmp 70) (.tmp 72) _ rfl w.heap.size 9 i0 _ 1 16 Tryd.underlying23 hi hz0 hz1 hz2 rfl (by omega) _ _ _ rfl (HO.out.alloc _) ⟨wr.heap.size, 0, none⟩ 1 1 [.string X] rfl rfl ?c1 ?c2 ?c3 ?c4 ?c5 ?_)
          case c1 =>
            intro j u hu
            match j, hu with
            | 0, hu => simp at hu; subst hu; go_cell
          case c2 =>
            intro u hu
            simp at hu
            subst hu; rfl
          case c3 => unfold maxLen; omega
          case c4 => omega
          case c5 => (have hc5 := hxj.size; try simp at hc5); simp; omega
          intro v' w2 hown2 hgr _
          have hx3 := (hxj.alloc (.cells #[.string X] 9)).grown hgr (fun k hk => (HO.out.lt k hk).1)
          have HO2 := Lib.hid hown2
          have HG := Lib.hid hgr
          clear hown2 hgr
          go_wp2_with fail
          go_roundw
          case rel =>
            refine ⟨i + 1, by go_num, by omega, ?_, hx3⟩
            rw [hmm.out, List.map_take]
            exact HO2.out
          case measure => simp [intOf]; omega
    · obtain rfl : i = P1 := by omega
      have hfull : Hid ((scaledB k rows).take i = scaledB k rows) := List.take_of_length_le (by rw [scaled_len, ← HN.out, ← HP1.out]; exact Nat.le_refl _)
      have hli : Hid ((scaledB k rows).length = i) := by show _ = _; rw [scaled_len, ← HN.out, ← HP1.out]
      rw [hfull.out] at HO
      go_wp2_with fail
      refine bodyPost_ret (v := .tuple #[u7, .int .i64 0]) (by simp [results, Tryd.results19, go_sem]) rfl ?_
      refine ⟨_, rfl, ?_, hx⟩
      rw [hli.out]
      exact HO.out
end Go.Proofs.YthanegmaipckdaaDoor
