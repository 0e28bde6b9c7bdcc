/- The law BitmapScaling returns true. (Layer 52) -/
import Derived.Test.YthanegmaipckdaaDoorBitAlive
import Derived.Test.YthanegmaipckdaaDoorBitScale
import Derived.Test.YthanegmaipckdaaDoorBitScaleQ
import Derived.IntWalk
namespace Go.Proofs.YthanegmaipckdaaDoor
open Go.RowKit
open Go.Lib hiding intOf
set_option linter.unusedVariables false

theorem u8_of {n : Int} (h : (Lit.int .u8 n).wf = true) : ∃ a : Nat, n = (a : Int) ∧ a < 256 := by
  simp only [Lit.wf, IntKind.min, IntKind.max, IntKind.signed, IntKind.bits, Bool.and_eq_true, decide_eq_true_eq, Bool.false_eq_true, if_false] at h
  exact ⟨n.toNat, by omega, by omega⟩

theorem cntL_take (c : UInt8) (l : List Bytes) (h1 : l.length ≤ 200) (h2 : ∀ r ∈ l, r.length ≤ 200) (i : Nat) : cntL c (l.take i) ≤ 40000 := by
  refine Nat.le_trans (cntL_le c 200 _ fun r hr => h2 r (List.mem_of_mem_take hr)) ?_
  rw [List.length_take]
  omega

set_option maxHeartbeats 8000000 in
set_option maxRecDepth 100000 in
theorem lawScaling_any (A : Option Addr) (n cap : Nat) (rows : List ByteArray) (a b : Nat) (ha : a < 256) (hb : b < 256) (w : World) (hl : Lst w A n cap (rows.map .string)) (hz : ∀ r ∈ rows, r.size ≤ maxLen) (hE : Env w) (hY : Sy w) :
    Calls Tryd.prog 9 #[.slice A n cap, .int .u8 a, .int .u8 b] w fun e w' => e = .returned (.bool true) ∧ Ext w w' := by
  have HAL := Lib.hid (alive_any w hE hY)
  have hG := fun W (h : Lst W A n cap (rows.map .string)) => great_any A n cap rows W h hz
  obtain ⟨x, hx⟩ : ∃ x, x = 1 + a % 3 := ⟨_, rfl⟩
  obtain ⟨y, hy⟩ : ∃ y, y = 1 + b % 2 := ⟨_, rfl⟩
  have hx1 : 1 ≤ x := by omega
  have hx3 : x ≤ 3 := by omega
  have hy1 : 1 ≤ y := by omega
  have hy2 : y ≤ 2 := by omega
  have hxy : x * y ≤ 3 * 2 := Nat.mul_le_mul hx3 hy2
  obtain ⟨a3, ha3⟩ : ∃ a3, a3 = a % 3 := ⟨_, rfl⟩
  obtain ⟨b2, hb2⟩ : ∃ b2, b2 = b % 2 := ⟨_, rfl⟩
  have ha3' : a3 ≤ 2 := by omega
  have hb2' : b2 ≤ 1 := by omega
  have et : (a : Int) % 3 = (a3 : Int) := by omega
  have et2 : (b : Int) % 2 = (b2 : Int) := by omega
  have ex : (1 : Int) + (a3 : Int) = (x : Int) := by omega
  have ey : (1 : Int) + (b2 : Int) = (y : Int) := by omega
  clear ha3 hb2
  have hA := fun W (h : Lst W A n cap (rows.map .string)) => (bscale_any A n cap rows x W h hz).mono fun e w' h => RowsPost.open h
  have hC := fun W (h : Lst W A n cap (rows.map .string)) => (bscale_any A n cap rows (x * y : Nat) W h hz).mono fun e w' h => RowsPost.open h
  have HL := Lib.hid hl
  have hlen : n = rows.length := by simpa using hl.len
  have HG := Lib.hid hG
  clear hG
  rcases scale_cases rows x with ⟨E, hR, hE0⟩ | ⟨hp, _, _, hR, hr1, hr2⟩
  · rw [hR] at hA
    simp only at hA
    have HA := Lib.hid hA
    have hE1 : (E != 0) = true := bne_iff_ne.2 hE0
    clear hA hC hl hz hR hlen hx hy
    go_enter Tryd.func9, Tryd.ntmps9
    go_wp2_with fail
    refine HAL.out.mono ?_
    rintro e w1 ⟨rfl, hx1⟩
    go_wp2_with fail
    refine (HG.out _ (HL.out.ext hx1)).mono ?_
    rintro e w2 ⟨g, hg, rfl, hx2⟩
    rcases hg with ⟨rfl, hsm⟩ | rfl
    · have hx12 := hx1.trans hx2
      go_wp2_with fail
      refine (HA.out _ (HL.out.ext hx12)).mono ?_
      rintro e w3 ⟨B, cB, rfl, hlB, hx3⟩
      have HLB := Lib.hid hlB
      clear hlB
      go_wp2_with fail
      go_ret
      exact ⟨rfl, hx12.trans hx3⟩
    · go_wp2_with fail
      go_ret
      exact ⟨rfl, hx1.trans hx2⟩
  rw [hR] at hA
  simp only at hA
  have hss := scale_scale hp hx1 hx3 hy1 hy2 hr1 hr2
  obtain ⟨hne, h200, hrow⟩ := pic_facts hp
  have hpos : 0 < rows.length := by cases rows with | nil => exact absurd rfl hne | cons _ _ => simp
  obtain ⟨L, hL⟩ : ∃ L, L = scaledB x rows := ⟨_, rfl⟩
  have hLl : L.length = n * x := by rw [hL, scaled_len, hlen]
  have hLw : ∀ l ∈ L, l.length = widthB rows * x := by
    intro l h
    rw [hL] at h
    obtain ⟨r, hr, rfl⟩ := mem_scaled h
    rw [wide_len, ← (hrow r hr).1]; rfl
  have hcnt := cnt_scaled 35 x rows
  rw [← hL] at hA hss hcnt
  have hB := fun B cB W (h : Lst W B L.length cB ((L.map BA).map .string)) => (bscale_any B L.length cB (L.map BA) y W h (fun r hr => by
    obtain ⟨l, hl, rfl⟩ := List.mem_map.1 hr
    rw [BA_size, hLw l hl]
    unfold maxLen
    omega)).mono fun e w' h => RowsPost.open h
  rw [hss] at hB
  have hw0 : widthB rows = (rows[0]'hpos).size := by
    cases rows with
    | nil => exact absurd rfl hne
    | cons r t => rfl
  obtain ⟨RR, hRR⟩ : ∃ RR : List Bytes, RR = rows.map fun r => r.data.toList := ⟨_, rfl⟩
  rw [← hRR] at hcnt
  have hRl : RR.length = n := by rw [hRR, List.length_map, hlen]
  have hb1 := cntL_take 35 RR (by omega) (fun l hl => by
    rw [hRR] at hl
    obtain ⟨r, hr, rfl⟩ := List.mem_map.1 hl
    exact (hrow r hr).2.2.1)
  have hb2 := cntL_take 35 L (by rw [hLl, hlen]; exact hr1) (fun l hl => by rw [hLw l hl]; exact hr2)
  obtain ⟨bA, offA, rfl, hcA⟩ := hl.at_ (by omega)
  have hcA' : ∀ i (h : i < RR.length), w.cell? ⟨bA, offA + i, none⟩ = some (.string (BA RR[i])) := by
    intro i h
    have := hcA i (by rw [List.length_map]; omega)
    simp only [hRR, List.getElem_map] at this ⊢
    rw [BA_of]
    exact this
  have hroom := hl.room
  have hmax := hl.max
  unfold maxLen at hmax
  have hc00 : w.cell? ⟨bA, offA, none⟩ = some (.string (rows[0]'hpos)) := by
    have := hcA 0 (by rw [List.length_map]; exact hpos)
    rwa [List.getElem_map] at this
  rw [hw0] at hLw hr2
  generalize (rows[0]'hpos) = r0 at *
  obtain ⟨P1, hP1⟩ : ∃ P1, P1 = n * x := ⟨_, rfl⟩
  obtain ⟨P2, hP2⟩ : ∃ P2, P2 = r0.size * x := ⟨_, rfl⟩
  obtain ⟨Q, hQ⟩ : ∃ Q, Q = x * x := ⟨_, rfl⟩
  obtain ⟨Z, hZ⟩ : ∃ Z, Z = x * y := ⟨_, rfl⟩
  obtain ⟨bl, hbl⟩ : ∃ bl, bl = cntL 35 RR := ⟨_, rfl⟩
  obtain ⟨mo, hmo⟩ : ∃ mo, mo = cntL 35 L := ⟨_, rfl⟩
  have hQ9 : Q ≤ 3 * 3 := by rw [hQ]; exact Nat.mul_le_mul hx3 hx3
  have hbl4 : bl ≤ 40000 := by rw [hbl]; have := hb1 RR.length; rwa [List.take_length] at this
  have hmo4 : mo ≤ 40000 := by rw [hmo]; have := hb2 L.length; rwa [List.take_length] at this
  have hm1 : (x : Int) * (n : Int) = (P1 : Int) := by rw [hP1, Int.natCast_mul, Int.mul_comm]
  have hm2 : (x : Int) * (r0.size : Int) = (P2 : Int) := by rw [hP2, Int.natCast_mul, Int.mul_comm]
  have hm3 : (x : Int) * (x : Int) = (Q : Int) := by rw [hQ, Int.natCast_mul]
  have hm4 : (Q : Int) * (bl : Int) = (mo : Int) := by rw [hmo, hcnt, ← hbl, ← hQ, Int.natCast_mul]
  have hm5 : (x : Int) * (y : Int) = (Z : Int) := by rw [hZ, Int.natCast_mul]
  have hQb : Q * bl ≤ 9 * 40000 := Nat.mul_le_mul hQ9 hbl4
  have hLP : L.length = P1 := by rw [hLl, hP1]
  have hP1b : P1 ≤ 200 := by rw [hP1, hlen]; exact hr1
  have hP1p : 0 < P1 := by rw [hP1, hlen]; exact Nat.mul_pos hpos hx1
  have hLP2 : ∀ l ∈ L, (BA l).size = P2 := fun l hl => by rw [BA_size, hLw l hl, hP2]
  rw [← hZ] at hB hC hxy
  rw [hLP] at hA hB
  have hr2' : P2 ≤ 200 := by rw [hP2]; exact hr2
  generalize scaleA rows (Z : Int) = R2 at *
  obtain ⟨l2, E2⟩ := R2
  simp only at hB hC
  have hEE : (E2 == E2) = true := beq_self_eq_true _
  have HA := Lib.hid hA
  have HB := Lib.hid hB
  have HC := Lib.hid hC
  have HCA := Lib.hid hcA'
  have HL2 := Lib.hid hLP2
  have HLP := Lib.hid hLP
  have HRL := Lib.hid hRl
  have HB1 := Lib.hid hb1
  have HB2 := Lib.hid hb2
  have HBL := Lib.hid hbl
  have HMO := Lib.hid hmo
  have hLmap : Hid ((L.map BA).length = P1) := by show _ = _; rw [List.length_map, hLP]
  have hn200 : n ≤ 200 := by omega
  have hn0 : 0 < n := by omega
  clear hA hB hC hcA' hcA hLP2 hLP hRl hb1 hb2 hbl hmo hss hcnt hRR hL hLl hLw hR hQ hZ hP1 hP2 hl hz hlen hrow hw0 hp hr1 hr2 hne hpos h200 hx hy
  go_enter Tryd.func9, Tryd.ntmps9
  go_wp2_with fail
  refine HAL.out.mono ?_
  rintro e w1 ⟨rfl, hx1'⟩
  go_wp2_with fail
  refine (HG.out _ (HL.out.ext hx1')).mono ?_
  rintro e w2 ⟨g, hg, rfl, hx2'⟩
  rcases hg with ⟨rfl, hsm⟩ | rfl
  · have hx12 := hx1'.trans hx2'
    go_wp2_with fail
    refine (HA.out _ (HL.out.ext hx12)).mono ?_
    rintro e w3 ⟨B, cB, rfl, hlB, hx3'⟩
    have hx13 := hx12.trans hx3'
    obtain ⟨bB, offB, rfl, hcB⟩ := hlB.at_ hP1p
    have HLB := Lib.hid hlB
    have HCB : Hid (∀ i (h : i < L.length), w3.cell? ⟨bB, offB + i, none⟩ = some (.string (BA L[i]))) := by
      show ∀ _, _
      intro i h
      have := hcB i (by rw [List.length_map, List.length_map]; exact h)
      simpa only [List.getElem_map] using this
    clear hlB hcB
    go_wp2_with fail
    go_loopw [11, 13] (fun bv iv wr => ∃ i : Nat, iv = .int .i64 i ∧ i ≤ n ∧ bv = .int .i64 (cntL 35 (RR.take i)) ∧ Ext w3 wr) (fun _ iv _ => n - (intOf iv).toNat)
    case atStart => exact ⟨0, rfl, Nat.zero_le _, rfl, Ext.refl _⟩
    case round =>
      obtain ⟨i, rfl, hi, rfl, hxr⟩ := hrel
      by_cases hlt : i < n
      · have hil : i < RR.length := by rw [HRL.out]; exact hlt
        have hcell := (hx13.trans hxr).cell (HCA.out i hil)
        have hcs : Hid (cntL 35 (RR.take (i + 1)) = cntL 35 (RR.take i) + Lib.countByte (BA RR[i]).data.toList 35) := by show _ = _; rw [cntL_snoc 35 RR i hil, BA_data]; rfl
        have hcb := HB1.out (i + 1)
        have hcb' := hcs.out ▸ hcb
        generalize RR[i] = r at *
        generalize cntL 35 (RR.take i) = ct at *
        clear hcb
        go_wp2_with fail
        refine (Tryd.strings_Count_one _ 35 _).mono ?_
        rintro e w4 ⟨rfl, rfl⟩
        generalize Lib.countByte (BA r).data.toList 35 = cc at *
        go_wp2_with fail
        go_roundw
        case rel => exact ⟨i + 1, by go_num, by omega, by rw [hcs.out]; go_num, hxr⟩
        case measure => simp [intOf]; omega
      · obtain rfl : i = n := by omega
        have hfin : Hid (cntL 35 (RR.take i) = bl) := by show _ = _; rw [HBL.out, ← HRL.out, List.take_length]
        rw [hfin.out]
        clear hfin
        go_wp2_with fail
        have hx14 := hx13.trans hxr
        have HCB4 : Hid (∀ j (h : j < L.length), wr.cell? ⟨bB, offB + j, none⟩ = some (.string (BA L[j]))) := fun j h => hxr.cell (HCB.out j h)
        have HLB4 := Lib.hid (HLB.out.ext hxr)
        clear HCB HLB hxr
        go_loopw [12, 14] (fun mv jv wr' => ∃ j : Nat, jv = .int .i64 j ∧ j ≤ P1 ∧ mv = .int .i64 (cntL 35 (L.take j)) ∧ Ext wr wr') (fun _ jv _ => P1 - (intOf jv).toNat)
        case atStart => exact ⟨0, rfl, Nat.zero_le _, rfl, Ext.refl _⟩
        case round =>
          obtain ⟨j, rfl, hj, rfl, hxs⟩ := hrel
          by_cases hjt : j < P1
          · have hjl : j < L.length := by rw [HLP.out]; exact hjt
            have hcell := hxs.cell (HCB4.out j hjl)
            have hcell0 := (hx14.trans hxs).cell hc00
            have hsz := HL2.out L[j] (List.getElem_mem hjl)
            have hcs : Hid (cntL 35 (L.take (j + 1)) = cntL 35 (L.take j) + Lib.countByte (BA L[j]).data.toList 35) := by show _ = _; rw [cntL_snoc 35 L j hjl, BA_data]; rfl
            have hcb := HB2.out (j + 1)
            have hcb' := hcs.out ▸ hcb
            generalize BA L[j] = r at *
            generalize cntL 35 (L.take j) = ct at *
            clear hcb
            go_wp2_with fail
            refine (Tryd.strings_Count_one _ 35 _).mono ?_
            rintro e w4 ⟨rfl, rfl⟩
            generalize Lib.countByte r.data.toList 35 = cc at *
            go_wp2_with fail
            go_quiet (fail)
            go_wp2_with fail
            go_roundw
            case rel => exact ⟨j + 1, by go_num, by omega, by rw [hcs.out]; go_num, hxs.drewN _⟩
            case measure => simp [intOf]; omega
          · obtain rfl : j = P1 := by omega
            have hfin : Hid (cntL 35 (L.take j) = mo) := by show _ = _; rw [HMO.out, ← HLP.out, List.take_length]
            rw [hfin.out]
            clear hfin
            go_wp2_with fail
            refine (HB.out _ _ _ (HLB4.out.ext hxs)).mono ?_
            rintro e w5 ⟨C, cC, rfl, hlC, hx5⟩
            have HLC := Lib.hid hlC
            have hx15 := (hx14.trans hxs).trans hx5
            clear hlC
            go_wp2_with fail
            refine (HC.out _ (HL.out.ext hx15)).mono ?_
            rintro e w6 ⟨D, cD, rfl, hlD, hx6⟩
            have hsm := rsame_any C D l2.length l2.length cC cD _ _ w6 (HLC.out.ext hx6) hlD
            rw [decide_eq_true rfl] at hsm
            have HSM := Lib.hid hsm
            clear hlD hsm
            go_wp2_with fail
            refine HSM.out.mono ?_
            rintro e w7 ⟨rfl, hx7⟩
            go_wp2_with fail
            go_ret
            exact ⟨rfl, (hx15.trans hx6).trans hx7⟩
  · go_wp2_with fail
    go_ret
    exact ⟨rfl, hx1'.trans hx2'⟩
end Go.Proofs.YthanegmaipckdaaDoor
