/- The contract of the law's invert; the law BitmapInversion returns true. (Layer 52) -/
import Derived.Test.YthanegmaipckdaaDoorBitAlive
import Derived.Test.YthanegmaipckdaaDoorBitInvP
import Derived.Test.YthanegmaipckdaaDoorBytesMem
import Derived.Deep.RegionHeld3
namespace Go.Proofs.YthanegmaipckdaaDoor
open Go.RowKit
open Go.Lib hiding intOf
attribute [local simp] Slots Slot look Is Oper.looksAt Op.operands Call.operands
set_option linter.unusedVariables false

theorem str_sameI (x : ByteArray) : (x.toList == x.toList) = true := beq_self_eq_true _

set_option maxHeartbeats 4000000 in
set_option maxRecDepth 100000 in
theorem invert_any (s : ByteArray) (w : World) (hs : s.size ≤ 1000000000) :
    Calls Tryd.prog 17 #[.string s] w fun e w' => e = .returned (.string (BA (s.data.toList.map inv))) ∧ Ext w w' := by
  obtain ⟨Z, hZ⟩ : ∃ Z, Z = BA (s.data.toList.map inv) := ⟨_, rfl⟩
  rw [← hZ]
  have HZ := Lib.hid hZ
  clear hZ
  have hcv := fun W => Lib.run_convert_string_bytes (P := Tryd.prog) W 9 35 5 s Tryd.underlying9 Tryd.underlying35 Tryd.underlying5
  have hbel := Lib.hid (bytesW_ext w 5 s)
  have hrow := ByteRow.new w 5 s
  have hsl : s.data.toList.length = s.size := rfl
  have HR : Hid (ByteRow (Lib.bytesWorld w 5 s) w.heap.size ((s.data.toList.take 0).map inv ++ s.data.toList.drop 0)) := hrow
  clear hrow
  go_enter Tryd.func17, Tryd.ntmps17
  go_wp2_with fail
  generalize grownCap w s.size 0 5 = cap
  generalize Lib.bytesWorld w 5 s = W0 at HR hbel ⊢
  clear hcv
  have HSL := Lib.hid hsl
  clear hsl
  generalize s.data.toList = L at *
  go_loopw [4] (fun i wr => ∃ k : Nat, k ≤ s.size ∧ i = .int .i64 k ∧ ByteRow wr w.heap.size ((L.take k).map inv ++ L.drop k) ∧ Ext w wr) (fun i _ => s.size - (intOf i).toNat)
  case atStart => exact ⟨0, Nat.zero_le _, rfl, HR.out, hbel.out⟩
  case round =>
    obtain ⟨k, hk, rfl, hby, hx⟩ := hrel
    have HBY := Lib.hid hby
    clear hby
    by_cases hlt : k < s.size
    · obtain ⟨m1, m2, m3, m4, m5⟩ := map_step L inv k (by rw [HSL.out]; exact hlt)
      have hkl : k < ((L.take k).map inv ++ L.drop k).length := by rw [m5, HSL.out]; exact hlt
      have hcell : wr.cell? ⟨w.heap.size, k, none⟩ = some (.int .u8 ((L[k]'(by rw [HSL.out]; exact hlt)).toNat : Int)) := by rw [HBY.out.cell k hkl, m3]
      have hfree : wr.frozen? ⟨w.heap.size, k, none⟩ = false := HBY.out.free k hkl
      have hset := Lib.hid (HBY.out.set k (inv (L[k]'(by rw [HSL.out]; exact hlt))) hkl m1 m2 m4)
      generalize (L[k]'(by rw [HSL.out]; exact hlt)) = c at *
      clear m4 hkl
      by_cases h46 : c = 46
      · subst h46
        have hset2 : Hid (ByteRow (wr.setCell ⟨w.heap.size, k, none⟩ (.int .u8 35)) w.heap.size ((L.take (k + 1)).map inv ++ L.drop (k + 1))) := hset.out
        have hcell2 : wr.cell? ⟨w.heap.size, k, none⟩ = some (.int .u8 46) := hcell
        clear hcell hset m1 m2 m3 m5
        go_wp2_with fail
        go_roundw
        case rel => exact ⟨k + 1, by omega, by go_num, hset2.out, hx.set (Nat.le_refl _) _⟩
        case measure => simp [intOf]; omega
      · have c46 : ((c.toNat : Int) == 46) = false := by
          rw [beq_eq_false_iff_ne]; intro e; exact h46 (UInt8.toNat_inj.1 (by have : (46 : UInt8).toNat = 46 := rfl; omega))
        have c46' : ¬ ((c.toNat : Int) = 46) := by simpa using c46
        by_cases h35 : c = 35
        · subst h35
          have hset2 : Hid (ByteRow (wr.setCell ⟨w.heap.size, k, none⟩ (.int .u8 46)) w.heap.size ((L.take (k + 1)).map inv ++ L.drop (k + 1))) := hset.out
          have hcell2 : wr.cell? ⟨w.heap.size, k, none⟩ = some (.int .u8 35) := hcell
          clear hcell hset m1 m2 m3 m5 c46 c46'
          go_wp2_with fail
          go_roundw
          case rel => exact ⟨k + 1, by omega, by go_num, hset2.out, hx.set (Nat.le_refl _) _⟩
          case measure => simp [intOf]; omega
        · have c35 : ((c.toNat : Int) == 35) = false := by
            rw [beq_eq_false_iff_ne]; intro e; exact h35 (UInt8.toNat_inj.1 (by have : (35 : UInt8).toNat = 35 := rfl; omega))
          have c35' : ¬ ((c.toNat : Int) = 35) := by simpa using c35
          have hsame : Hid (ByteRow wr w.heap.size ((L.take (k + 1)).map inv ++ L.drop (k + 1))) := by
            have hi : inv c = c := by unfold inv; rw [if_neg h46, if_neg h35]
            have e : (L.take (k + 1)).map inv ++ L.drop (k + 1) = (L.take k).map inv ++ L.drop k := by
              have hkL : k < L.length := by rw [HSL.out]; exact hlt
              have hc : L[k] = c := by
                rw [List.getD_eq_getElem?_getD, List.getElem?_append_right (by rw [List.length_map, List.length_take]; omega)] at m3
                rw [List.length_map, List.length_take, show min k L.length = k by omega, Nat.sub_self, List.getElem?_drop] at m3
                simpa [hkL] using m3
              rw [List.take_succ_eq_append_getElem hkL, List.drop_eq_getElem_cons hkL, hc, List.map_append, List.map_cons, List.map_nil, hi]
              simp
            show ByteRow _ _ _
            rw [e]
            exact HBY.out
          clear hset m1 m2 m3 m5
          go_wp2_with fail
          go_roundw
          case rel => exact ⟨k + 1, by omega, by go_num, hsame.out, hx⟩
          case measure => simp [intOf]; omega
    · obtain rfl : k = s.size := by omega
      have hz := HBY.out.string cap
      have e : (L.take s.size).map inv ++ L.drop s.size = L.map inv := by
        rw [List.take_of_length_le (by rw [HSL.out]; exact Nat.le_refl _), List.drop_of_length_le (by rw [HSL.out]; exact Nat.le_refl _), List.append_nil]
      rw [e, List.length_map, HSL.out, ← HZ.out] at hz
      clear e
      go_wp2_with fail
      go_ret
      exact ⟨rfl, hx⟩

set_option maxHeartbeats 8000000 in
set_option maxRecDepth 100000 in
theorem lawInv_any (A : Option Addr) (n cap : Nat) (rows : List ByteArray) (w : World) (hl : Lst w A n cap (rows.map .string)) (hz : ∀ r ∈ rows, r.size ≤ maxLen) (hE : Env w) (hY : Sy w) :
    Calls Tryd.prog 6 #[.slice A n cap] w fun e w' => e = .returned (.bool true) ∧ Ext w w' := by
  have HAL := Lib.hid (alive_any w hE hY)
  have hlen : n = rows.length := by simpa using hl.len
  have hG := fun W (h : Lst W A n cap (rows.map .string)) => great_any A n cap rows W h hz
  have hC := fun W (h : Lst W A n cap (rows.map .string)) (h1 : Env W) => bcompress_any A n cap rows W h hz h1
  have hroom := hl.room
  have hmax := hl.max
  unfold maxLen at hmax
  have HG := Lib.hid hG
  have HL := Lib.hid hl
  clear hG
  by_cases hp : picE rows = 0
  · have hcz : compZ rows = (encB (runsB (catB rows)), widthB rows, 0) := by unfold compZ; rw [if_pos hp]
    rw [hcz] at hC
    simp only at hC
    have hel := encB_runs_len (catB rows)
    obtain ⟨q1, q2, q3, q4, q5, q6⟩ := pic_len hp
    have hcl : (catB rows).length ≤ 40000 := by rw [(pic_cat hp).2]; exact Nat.mul_le_mul q4 q3
    have hI := fun W => invert_any (BA (encB (runsB (catB rows)))) W (by rw [BA_size]; omega)
    rw [BA_data] at hI
    have hB := fun W (h1 : Env W) (h2 : Sy W) => (bExpand_any (BA ((encB (runsB (catB rows))).map inv)) (widthB rows : Int) W (by rw [BA_size, List.length_map]; omega) h1 h2).mono fun e w' h => RowsPost.open h
    rw [BA_data, exp_inv hp] at hB
    simp only [List.length_map] at hB
    have hmm : (rows.map fun r => r.data.toList.map inv).map BA = rows.map fun r => BA (r.data.toList.map inv) := by rw [List.map_map]; rfl
    rw [hmm, ← hlen] at hB
    have hrz : ∀ r ∈ rows, r.size ≤ 200 := fun r hr => ((pic_facts hp).2.2 r hr).2.2.1
    have HRZ := Lib.hid hrz
    have HC := Lib.hid hC
    have HB := Lib.hid hB
    have HI := Lib.hid hI
    have HN := Lib.hid hlen
    have hn1 : n ≤ 200 := by omega
    clear hC hB hI hl hz hlen hp hcz hel q1 q2 q3 q4 q5 q6 hcl hmm hrz
    generalize BA ((encB (runsB (catB rows))).map inv) = T at *
    generalize BA (encB (runsB (catB rows))) = S at *
    generalize (widthB rows : Int) = wi at *
    go_enter Tryd.func6, Tryd.ntmps6
    go_wp2_with fail
    refine HAL.out.mono ?_
    rintro e w1 ⟨rfl, hx1⟩
    go_wp2_with fail
    refine (HG.out _ (HL.out.ext hx1)).mono ?_
    rintro e w2 ⟨g, hg, rfl, hx2⟩
    rcases hg with ⟨rfl, hsm⟩ | rfl
    · have hx12 := hx1.trans hx2
      have hE2 := hE.ext hx12
      have hY2 := hY.ext hx12
      go_wp2_with fail
      refine (HC.out _ (HL.out.ext hx12) hE2).mono ?_
      rintro e w3 ⟨rfl, hx3⟩
      go_wp2_with fail
      refine (HI.out _).mono ?_
      rintro e w4 ⟨rfl, hx4⟩
      have hx34 := hx3.trans hx4
      go_wp2_with fail
      refine (HB.out _ (hE2.ext hx34) (hY2.ext hx34)).mono ?_
      rintro e w5 ⟨B, cB, rfl, hlB, hx5⟩
      have hx15 := (hx12.trans hx34).trans hx5
      have hroomB := hlB.room
      have hmaxB := hlB.max
      unfold maxLen at hmaxB
      have HLB := Lib.hid hlB
      have HLA := Lib.hid (HL.out.ext hx15)
      clear hlB
      go_wp2_with fail
      go_loopw [8] (fun i wr => ∃ k : Nat, k ≤ n ∧ i = .int .i64 k ∧ Ext w5 wr) (fun i _ => n - (intOf i).toNat)
      case atStart => exact ⟨0, Nat.zero_le _, rfl, Ext.refl _⟩
      case round =>
        obtain ⟨k, hk, rfl, hx⟩ := hrel
        by_cases hlt : k < n
        · obtain ⟨b1, o1, rfl, hc1⟩ := HLB.out.at_ (by omega)
          obtain ⟨b2, o2, rfl, hc2⟩ := HLA.out.at_ (by omega)
          have hkl : k < rows.length := by have := HN.out; omega
          have e1 := hx.cell (hc1 k (by rw [List.length_map, List.length_map]; exact hkl))
          have e2 := hx.cell (hc2 k (by rw [List.length_map]; exact hkl))
          rw [List.getElem_map, List.getElem_map] at e1
          rw [List.getElem_map] at e2
          have hiv := fun W => invert_any (BA (rows[k].data.toList.map inv)) W (by
            rw [BA_size, List.length_map]
            have h1 := HRZ.out rows[k] (List.getElem_mem hkl)
            have : rows[k].data.toList.length = rows[k].size := rfl
            omega)
          rw [BA_data, List.map_map, show (inv ∘ inv) = id from funext inv_inv, List.map_id, BA_of] at hiv
          have hss := str_sameI rows[k]
          generalize BA (rows[k].data.toList.map inv) = X at *
          generalize rows[k] = Y at *
          have HIV := Lib.hid hiv
          clear hc1 hc2 hiv
          go_wp2_with fail
          refine wp_region_grow (by kernel_rfl) (by kernel_rfl) ?_
          repeat
            first
            | (apply grow_is
               case h =>
                intro a w1 hg hs hsl
                clear hs
                try simp at hsl
                try (first | (refine Exists.elim (row_spec hsl) ?_; rintro b ⟨hv, _, hh⟩) | (refine Exists.elim (row_spec hsl.1) ?_; rintro b ⟨hv, _, hh⟩))
                unfold growAt guardOk
                go_simp
                try go_bits
                try simp only [↓IntWalk.iteOmega]
                first
                  | exact grow_same
                  | exact is_skip
                  | exact rfl
                  | (rw [hg.cell e1]; exact grow_same)
                  | (rw [hg.cell e2]; exact grow_same)
                  | with_reducible exact grow_call_ext (HIV.out _))
          refine grow_fin ?_
          intro w1 hw1
          simp only [List.reverse_cons, List.reverse_nil, List.nil_append, List.cons_append, FinT, Is, forall_eq, List.setIfInBounds_toArray, List.set_cons_succ, List.set_cons_zero]
          go_wp2_with fail
          go_roundw
          case rel => exact ⟨k + 1, by omega, by go_num, hx.trans hw1⟩
          case measure => simp [intOf]; omega
        · obtain rfl : k = n := by omega
          go_wp2_with fail
          go_ret
          exact ⟨rfl, hx15.trans hx⟩
    · go_wp2_with fail
      go_ret
      exact ⟨rfl, hx1.trans hx2⟩
  · have hcz : compZ rows = ([], 0, picE rows) := by unfold compZ; rw [if_neg hp]
    rw [hcz] at hC
    simp only at hC
    have hp' : (picE rows != 0) = true := bne_iff_ne.2 hp
    generalize picE rows = z at *
    have HC := Lib.hid hC
    clear hC hl hz hlen hp hcz
    go_enter Tryd.func6, Tryd.ntmps6
    go_wp2_with fail
    refine HAL.out.mono ?_
    rintro e w1 ⟨rfl, hx1⟩
    go_wp2_with fail
    refine (HG.out _ (HL.out.ext hx1)).mono ?_
    rintro e w2 ⟨g, hg, rfl, hx2⟩
    rcases hg with ⟨rfl, hsm⟩ | rfl
    · have hx12 := hx1.trans hx2
      have hE2 := hE.ext hx12
      go_wp2_with fail
      refine (HC.out _ (HL.out.ext hx12) hE2).mono ?_
      rintro e w3 ⟨rfl, hx3⟩
      have hnil : ((BA []).toList == []) = true := by rw [beq_iff_eq, ByteArray.toList_eq]; rfl
      have hnil' : (BA []).toList = [] := by simpa using hnil
      go_wp2_with fail
      go_ret
      exact ⟨rfl, hx12.trans hx3⟩
    · go_wp2_with fail
      go_ret
      exact ⟨rfl, hx1.trans hx2⟩
end Go.Proofs.YthanegmaipckdaaDoor
