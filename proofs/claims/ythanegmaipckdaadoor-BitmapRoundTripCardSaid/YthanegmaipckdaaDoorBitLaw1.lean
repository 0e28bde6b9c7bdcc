/- The laws BitmapExpand, BitmapCompress, BitmapRoundTrip return true. (Layer 52) -/
import Derived.Test.YthanegmaipckdaaDoorBitAlive
import Derived.Test.YthanegmaipckdaaDoorBitRefExp
import Derived.Test.YthanegmaipckdaaDoorBitRefComp2
import Derived.Test.YthanegmaipckdaaDoorBitLawP
namespace Go.Proofs.YthanegmaipckdaaDoor
open Go.RowKit
open Go.Lib hiding intOf
set_option linter.unusedVariables false

theorem str_same (x : ByteArray) : (x.toList == x.toList) = true := beq_self_eq_true _

set_option maxHeartbeats 4000000 in
set_option maxRecDepth 100000 in
theorem lawExpand_any (s : ByteArray) (width : Int) (w : World) (hs : s.size ≤ maxLen) (hE : Env w) (hY : Sy w) :
    Calls Tryd.prog 3 #[.string s, .int .i64 width] w fun e w' => e = .returned (.bool true) ∧ Ext w w' := by
  have HAL := Lib.hid (alive_any w hE hY)
  unfold maxLen at hs
  by_cases g1 : (400 : Int) < s.size
  · go_enter Tryd.func3, Tryd.ntmps3
    go_wp2_with fail
    refine HAL.out.mono ?_
    rintro e w1 ⟨rfl, hx⟩
    go_wp2_with fail
    go_ret
    exact ⟨rfl, hx⟩
  have hA := fun W (h1 : Env W) (h2 : Sy W) => (bExpand_any s width W (by omega) h1 h2).mono fun e w' h => RowsPost.open h
  have hB := fun W => (rExpand_any s width W (by omega)).mono fun e w' h => RowsPost.open h
  generalize expA s.data.toList width = R at *
  obtain ⟨l, E⟩ := R
  simp only at hA hB
  have hEE : (E == E) = true := beq_self_eq_true _
  have HA := Lib.hid hA
  have HB := Lib.hid hB
  clear hA hB
  go_enter Tryd.func3, Tryd.ntmps3
  go_wp2_with fail
  refine HAL.out.mono ?_
  rintro e w1 ⟨rfl, hx1⟩
  go_wp2_with fail
  refine (HA.out _ (hE.ext hx1) (hY.ext hx1)).mono ?_
  rintro e w2 ⟨A, cA, rfl, hlA, hx2⟩
  have HLA := Lib.hid hlA
  clear hlA
  go_wp2_with fail
  refine (HB.out _).mono ?_
  rintro e w3 ⟨B, cB, rfl, hlB, hx3⟩
  have hsm := rsame_any A B l.length l.length cA cB _ _ w3 (HLA.out.ext hx3) hlB
  rw [decide_eq_true rfl] at hsm
  have HSM := Lib.hid hsm
  clear hlB hsm
  go_wp2_with fail
  refine HSM.out.mono ?_
  rintro e w4 ⟨rfl, hx4⟩
  go_wp2_with fail
  go_ret
  exact ⟨rfl, ((hx1.trans hx2).trans hx3).trans hx4⟩

set_option maxHeartbeats 4000000 in
set_option maxRecDepth 100000 in
theorem lawCompress_any (A : Option Addr) (n cap : Nat) (rows : List ByteArray) (w : World) (hl : Lst w A n cap (rows.map .string)) (hz : ∀ r ∈ rows, r.size ≤ maxLen) (hE : Env w) (hY : Sy w) :
    Calls Tryd.prog 4 #[.slice A n cap] w fun e w' => e = .returned (.bool true) ∧ Ext w w' := by
  have HAL := Lib.hid (alive_any w hE hY)
  have hG := fun W (h : Lst W A n cap (rows.map .string)) => great_any A n cap rows W h hz
  have hA := fun W (h : Lst W A n cap (rows.map .string)) (h1 : Env W) => bcompress_any A n cap rows W h hz h1
  have hB := fun W (h : Lst W A n cap (rows.map .string)) => rCompress_any A n cap rows W h hz
  have HL := Lib.hid hl
  generalize compZ rows = R at *
  obtain ⟨s, k, E⟩ := R
  simp only at hA hB
  have hEE : (E == E) = true := beq_self_eq_true _
  have hkk : ((k : Int) == (k : Int)) = true := beq_self_eq_true _
  have hss := str_same (BA s)
  generalize BA s = S at *
  have HG := Lib.hid hG
  have HA := Lib.hid hA
  have HB := Lib.hid hB
  clear hG hA hB hl hz
  go_enter Tryd.func4, Tryd.ntmps4
  go_wp2_with fail
  refine HAL.out.mono ?_
  rintro e w1 ⟨rfl, hx1⟩
  go_wp2_with fail
  refine (HG.out _ (HL.out.ext hx1)).mono ?_
  rintro e w2 ⟨g, hg, rfl, hx2⟩
  rcases hg with ⟨rfl, hsm⟩ | rfl
  · have hx12 := hx1.trans hx2
    have hE2 := hE.ext hx12
    go_wp2_with fail
    refine (HA.out _ (HL.out.ext hx12) hE2).mono ?_
    rintro e w3 ⟨rfl, hx3⟩
    go_wp2_with fail
    refine (HB.out _ (HL.out.ext (hx12.trans hx3))).mono ?_
    rintro e w4 ⟨rfl, hx4⟩
    go_wp2_with fail
    go_ret
    exact ⟨rfl, (hx12.trans hx3).trans hx4⟩
  · go_wp2_with fail
    go_ret
    exact ⟨rfl, hx1.trans hx2⟩

set_option maxHeartbeats 8000000 in
set_option maxRecDepth 100000 in
theorem lawRound_any (A : Option Addr) (n cap : Nat) (rows : List ByteArray) (runs : ByteArray) (width : Int) (w : World) (hl : Lst w A n cap (rows.map .string)) (hz : ∀ r ∈ rows, r.size ≤ maxLen) (hrs : runs.size ≤ maxLen) (hE : Env w) (hY : Sy w) :
    Calls Tryd.prog 5 #[.slice A n cap, .string runs, .int .i64 width] w fun e w' => e = .returned (.bool true) ∧ Ext w w' := by
  have HAL := Lib.hid (alive_any w hE hY)
  have hlen : n = rows.length := by simpa using hl.len
  have hG := fun W (h : Lst W A n cap (rows.map .string)) => great_any A n cap rows W h hz
  have HG := Lib.hid hG
  have HL := Lib.hid hl
  unfold maxLen at hrs
  clear hG
  by_cases g1 : (400 : Int) < runs.size
  · clear hl hz hlen
    go_enter Tryd.func5, Tryd.ntmps5
    go_wp2_with fail
    refine HAL.out.mono ?_
    rintro e w1 ⟨rfl, hx1⟩
    go_wp2_with fail
    refine (HG.out _ (HL.out.ext hx1)).mono ?_
    rintro e w2 ⟨g, hg, rfl, hx2⟩
    rcases hg with ⟨rfl, _⟩ | rfl
    all_goals
      go_wp2_with fail
      go_ret
      exact ⟨rfl, hx1.trans hx2⟩
  -- the second half: what an expanded picture gives
  have hX := fun W (h1 : Env W) (h2 : Sy W) => (bExpand_any runs width W (by omega) h1 h2).mono fun e w' h => RowsPost.open h
  have hC := fun W (h : Lst W A n cap (rows.map .string)) (h1 : Env W) => bcompress_any A n cap rows W h hz h1
  obtain ⟨R, hR⟩ : ∃ R, expA runs.data.toList width = R := ⟨_, rfl⟩
  rw [hR] at hX
  obtain ⟨l, E⟩ := R
  have hce := comp_exp hR
  simp only at hX
  have hC2 := fun B c W (h : Lst W B l.length c ((l.map BA).map .string)) (h1 : Env W) => bcompress_any B l.length c (l.map BA) W h (fun r hr => by
    obtain ⟨b, hb, rfl⟩ := List.mem_map.1 hr
    rw [BA_size]
    rcases hce with ⟨_, rfl⟩ | ⟨rfl, h2, h3, h4⟩
    · cases hb
    · by_cases hp : picE (l.map BA) = 0
      · have := ((pic_facts hp).2.2 (BA b) (List.mem_map_of_mem hb)).2.2.1
        rw [BA_size] at this
        unfold maxLen
        omega
      · unfold compZ at h2
        rw [if_neg hp] at h2
        injection h2 with h5 h6
        injection h6 with h7 h8
        exact absurd h8 hp) h1
  have HX := Lib.hid hX
  have HC2 := Lib.hid hC2
  have HCE := Lib.hid hce
  have hss := str_same runs
  have hww : (width == width) = true := beq_self_eq_true _
  -- the tail of the walk, from the second Expand on
  clear hX hC2 hce hR
  by_cases hp : picE rows = 0
  · have hcz : compZ rows = (encB (runsB (catB rows)), widthB rows, 0) := by unfold compZ; rw [if_pos hp]
    rw [hcz] at hC
    simp only at hC
    have hel := encB_runs_len (catB rows)
    obtain ⟨q1, q2, q3, q4, q5, q6⟩ := pic_len hp
    have hcl : (catB rows).length ≤ 40000 := by rw [(pic_cat hp).2]; exact Nat.mul_le_mul q4 q3
    have hB := fun W (h1 : Env W) (h2 : Sy W) => (bExpand_any (BA (encB (runsB (catB rows)))) (widthB rows : Int) W (by rw [BA_size]; omega) h1 h2).mono fun e w' h => RowsPost.open h
    rw [BA_data, exp_comp hp] at hB
    simp only [List.length_map] at hB
    rw [map_data_BA, ← hlen] at hB
    have HC := Lib.hid hC
    have HB := Lib.hid hB
    clear hC hB hl hz hlen hp hcz hel q1 q2 q3 q4 q5 q6 hcl
    generalize BA (encB (runsB (catB rows))) = S at *
    generalize (widthB rows : Int) = wi at *
    go_enter Tryd.func5, Tryd.ntmps5
    go_wp2_with fail
    refine HAL.out.mono ?_
    rintro e w1 ⟨rfl, hx1⟩
    go_wp2_with fail
    refine (HG.out _ (HL.out.ext hx1)).mono ?_
    rintro e w2 ⟨g, hg, rfl, hx2⟩
    rcases hg with ⟨rfl, hsm⟩ | rfl
    · have hx12 := hx1.trans hx2
      have hE2 := hE.ext hx12
      have hY2 := hY.ext hx12
      go_wp2_with fail
      refine (HC.out _ (HL.out.ext hx12) hE2).mono ?_
      rintro e w3 ⟨rfl, hx3⟩
      go_wp2_with fail
      refine (HB.out _ (hE2.ext hx3) (hY2.ext hx3)).mono ?_
      rintro e w4 ⟨B, cB, rfl, hlB, hx4⟩
      have hx14 := (hx12.trans hx3).trans hx4
      have hsm := rsame_any B A n n cB cap rows rows w4 hlB (HL.out.ext hx14)
      rw [decide_eq_true rfl] at hsm
      have HSM := Lib.hid hsm
      clear hlB hsm
      go_wp2_with fail
      refine HSM.out.mono ?_
      rintro e w5 ⟨rfl, hx5⟩
      have hx15 := hx14.trans hx5
      have hE5 := hE.ext hx15
      have hY5 := hY.ext hx15
      go_wp2_with fail
      refine (HX.out _ hE5 hY5).mono ?_
      rintro e w6 ⟨C, cC, rfl, hlC, hx6⟩
      have HLC := Lib.hid hlC
      clear hlC
      rcases HCE.out with ⟨hE0, rfl⟩ | ⟨rfl, hcz, hwa, hwb⟩
      · have hE1 : (E != 0) = true := bne_iff_ne.2 hE0
        go_wp2_with fail
        go_ret
        exact ⟨rfl, hx15.trans hx6⟩
      · have h2 := HC2.out C cC w6 HLC.out (hE5.ext hx6)
        rw [hcz] at h2
        simp only at h2
        rw [BA_of, Int.toNat_of_nonneg (by omega)] at h2
        have H2 := Lib.hid h2
        clear hcz h2
        go_wp2_with fail
        refine H2.out.mono ?_
        rintro e w7 ⟨rfl, hx7⟩
        go_wp2_with fail
        go_ret
        exact ⟨rfl, (hx15.trans hx6).trans hx7⟩
    · go_wp2_with fail
      go_ret
      exact ⟨rfl, hx1.trans hx2⟩
  · have hcz : compZ rows = ([], 0, picE rows) := by unfold compZ; rw [if_neg hp]
    rw [hcz] at hC
    simp only at hC
    have hp' : (picE rows == 0) = false := beq_eq_false_iff_ne.2 hp
    generalize picE rows = z at *
    have HC := Lib.hid hC
    clear hC hl hz hlen hp hcz
    go_enter Tryd.func5, Tryd.ntmps5
    go_wp2_with fail
    refine HAL.out.mono ?_
    rintro e w1 ⟨rfl, hx1⟩
    go_wp2_with fail
    refine (HG.out _ (HL.out.ext hx1)).mono ?_
    rintro e w2 ⟨g, hg, rfl, hx2⟩
    rcases hg with ⟨rfl, hsm⟩ | rfl
    · have hx12 := hx1.trans hx2
      have hE2 := hE.ext hx12
      have hY2 := hY.ext hx12
      go_wp2_with fail
      refine (HC.out _ (HL.out.ext hx12) hE2).mono ?_
      rintro e w3 ⟨rfl, hx3⟩
      have hx15 := hx12.trans hx3
      have hE5 := hE.ext hx15
      have hY5 := hY.ext hx15
      go_wp2_with fail
      refine (HX.out _ hE5 hY5).mono ?_
      rintro e w6 ⟨C, cC, rfl, hlC, hx6⟩
      have HLC := Lib.hid hlC
      clear hlC
      rcases HCE.out with ⟨hE0, rfl⟩ | ⟨rfl, hcz, hwa, hwb⟩
      · have hE1 : (E != 0) = true := bne_iff_ne.2 hE0
        go_wp2_with fail
        go_ret
        exact ⟨rfl, hx15.trans hx6⟩
      · have h2 := HC2.out C cC w6 HLC.out (hE5.ext hx6)
        rw [hcz] at h2
        simp only at h2
        rw [BA_of, Int.toNat_of_nonneg (by omega)] at h2
        have H2 := Lib.hid h2
        clear hcz h2
        go_wp2_with fail
        refine H2.out.mono ?_
        rintro e w7 ⟨rfl, hx7⟩
        go_wp2_with fail
        go_ret
        exact ⟨rfl, (hx15.trans hx6).trans hx7⟩
    · go_wp2_with fail
      go_ret
      exact ⟨rfl, hx1.trans hx2⟩
end Go.Proofs.YthanegmaipckdaaDoor
