/- The contract of bitmap.Expand (layer 52). -/
import Derived.Test.YthanegmaipckdaaDoorBitDecode
namespace Go.Proofs.YthanegmaipckdaaDoor
open Go.RowKit
open Go.Lib hiding intOf
open Dec
set_option linter.unusedVariables false

def rowAt (C : Bytes) (wd i : Nat) : Bytes := (C.drop (i * wd)).take wd
theorem chunk_rows (C : Bytes) (wd : Nat) : chunkB wd C = (List.range (C.length / wd)).map (rowAt C wd) := rfl

set_option maxHeartbeats 8000000 in
set_option maxRecDepth 100000 in
theorem bExpand_any (s : ByteArray) (width : Int) (w : World) (hs : s.size ≤ 1000000) (hE : Env w) (hY : Sy w) :
    Calls Tryd.prog 11 #[.string s, .int .i64 width] w (RowsPost w (expA s.data.toList width).1 (expA s.data.toList width).2) := by
  obtain ⟨i0, hi, hz0, hz1, hz2⟩ := info_parts Tryd.infoStr
  by_cases hw : width < 1 ∨ 200 < width
  · have hR : expA s.data.toList width = ([], 2) := by unfold expA; rw [if_pos hw]
    rw [hR]
    clear hR
    rcases hw with h | h
    · go_enter Tryd.func11, Tryd.ntmps11
      go_wp2_with fail
      refine bodyPost_ret (v := .tuple #[.slice none 0 0, .int .i64 2]) (by simp [results, Tryd.results11, go_sem]) rfl (rows_err _ _ _ _ rfl (Ext.refl _))
    · have h1 : ¬ (width < 1) := by omega
      go_enter Tryd.func11, Tryd.ntmps11
      go_wp2_with fail
      refine bodyPost_ret (v := .tuple #[.slice none 0 0, .int .i64 2]) (by simp [results, Tryd.results11, go_sem]) rfl (rows_err _ _ _ _ rfl (Ext.refl _))
  obtain ⟨wd, rfl⟩ := Int.eq_ofNat_of_zero_le (show 0 ≤ width by omega)
  have hw1 : 1 ≤ wd := by omega
  have hw2 : wd ≤ 200 := by omega
  have hdc := fun W (h1 : Env W) (h2 : Sy W) => bdecode_any s W hs h1 h2
  obtain ⟨RR, hRR⟩ : ∃ RR, RR = expA s.data.toList wd := ⟨_, rfl⟩
  rw [← hRR]
  unfold expA at hRR
  rw [if_neg hw, Int.toNat_natCast] at hRR
  unfold decS DecPost at hdc
  cases hp : parseR 0 s.data.toList with
  | none =>
    rw [hp] at hRR hdc
    simp only at hRR hdc
    have hfin := Lib.hid hRR
    have HD := Lib.hid hdc
    clear hRR hdc hp hw
    go_enter Tryd.func11, Tryd.ntmps11
    go_wp2_with fail
    refine (HD.out _ hE hY).mono ?_
    rintro e w1 ⟨rfl, hx⟩
    go_wp2_with fail
    refine bodyPost_ret (v := .tuple #[.slice none 0 0, .int .i64 3]) (by simp [results, Tryd.results11, go_sem]) rfl ?_
    rw [hfin.out]
    exact rows_err _ _ _ _ rfl hx
  | some rs =>
    rw [hp] at hRR hdc
    simp only at hRR hdc
    have htl : totR rs = (cellsR rs).length := rfl
    obtain ⟨hLe, hgood⟩ := parse_good _ 0 _ rs (Nat.le_refl _) hp
    have htle := totR_le rs (fun x hx => (hgood.mem x hx).2.1)
    have hrl : rs.length ≤ 1000000 := by
      have key : ∀ r : List (Nat × UInt8), r.length ≤ (encB r).length := by
        intro r
        induction r with
        | nil => exact Nat.le_refl _
        | cons x r ih => rw [encB_cons, List.length_append, List.length_append, List.length_cons]; simp only [List.length_cons, List.length_nil]; omega
      have h1 := key rs
      rw [← hLe] at h1
      have : s.data.toList.length = s.size := rfl
      omega
    have htb : totR rs ≤ 100000000000 := by omega
    generalize cellsR rs = C at *
    generalize totR rs = tp at *
    have HTL := Lib.hid htl
    clear hp hLe hgood htle hrl htl hw
    by_cases h0 : tp = 0
    · have hfin : Hid (RR = ([], 4)) := by show _ = _; rw [hRR, if_pos (Or.inl h0)]
      have HD := Lib.hid hdc
      subst h0
      clear hRR hdc
      go_enter Tryd.func11, Tryd.ntmps11
      go_wp2_with fail
      refine (HD.out _ hE hY).mono ?_
      rintro e w1 ⟨rfl, hx⟩
      go_wp2_with fail
      refine bodyPost_ret (v := .tuple #[.slice none 0 0, .int .i64 4]) (by simp [results, Tryd.results11, go_sem]) rfl ?_
      rw [hfin.out]
      exact rows_err _ _ _ _ rfl hx
    have h0' : ((tp : Int) == 0) = false := by rw [beq_eq_false_iff_ne]; omega
    have hwq : wrap64 ((tp : Int) / (wd : Int)) = (tp : Int) / (wd : Int) := IntWalk.wrap64_in _ (by
      have h1 : 0 ≤ (tp : Int) / (wd : Int) := Int.ediv_nonneg (by omega) (by omega)
      have h2 : (tp : Int) / (wd : Int) ≤ (tp : Int) := Int.ediv_le_self _ (by omega)
      omega)
    by_cases hm : tp % wd = 0
    · have hm' : ((tp : Int) % (wd : Int) != 0) = false := by rw [bne_eq_false_iff_eq, ← Int.natCast_emod, hm]; rfl
      have hm2 : (tp : Int) % (wd : Int) = 0 := by rw [← Int.natCast_emod, hm]; rfl
      by_cases hq : 200 < tp / wd
      · have hfin : Hid (RR = ([], 6)) := by show _ = _; rw [hRR, if_neg (by omega), if_pos hq]
        have hq' : (200 : Int) < (tp : Int) / (wd : Int) := by rw [← Int.natCast_ediv]; omega
        have HD := Lib.hid hdc
        clear hRR hm hq hdc
        go_enter Tryd.func11, Tryd.ntmps11
        go_wp2_with fail
        refine (HD.out _ hE hY).mono ?_
        rintro e w1 ⟨rfl, hx⟩
        go_wp2_with fail
        refine bodyPost_ret (v := .tuple #[.slice none 0 0, .int .i64 6]) (by simp [results, Tryd.results11, go_sem]) rfl ?_
        rw [hfin.out]
        exact rows_err _ _ _ _ rfl hx
      · have hfin : Hid (RR = (chunkB wd C, 0)) := by show _ = _; rw [hRR, if_neg (by omega), if_neg hq]
        have hq' : ¬ (200 : Int) < (tp : Int) / (wd : Int) := by rw [← Int.natCast_ediv]; omega
        obtain ⟨Q, hQ⟩ : ∃ Q, Q = tp / wd := ⟨_, rfl⟩
        have hQb : Q ≤ 200 := by omega
        have hQt : tp = Q * wd := by rw [hQ]; have := Nat.div_add_mod tp wd; rw [Nat.mul_comm] at this; omega
        have htp : tp ≤ 40000 := by rw [hQt]; exact Nat.mul_le_mul hQb hw2
        have htk : C.take 40000 = C := List.take_of_length_le (by rw [← HTL.out]; exact htp)
        rw [htk] at hdc
        have HD := Lib.hid hdc
        have hcz : (BA C).size = tp := by rw [BA_size]; exact HTL.out.symm
        have hchk : Hid (chunkB wd C = (List.range Q).map (rowAt C wd)) := by show _ = _; rw [chunk_rows, ← HTL.out, hQ]
        have HQT := Lib.hid hQt
        have hcz1 : tp ≤ (BA C).size := by omega
        clear hRR hm hq hdc hQ hQt htk
        go_enter Tryd.func11, Tryd.ntmps11
        go_wp2_with fail
        refine (HD.out _ hE hY).mono ?_
        rintro e w1 ⟨rfl, hx⟩
        go_wp2_with fail
        go_loopw [9, 10] (fun ov av wr => ∃ k a : Nat, av = .int .i64 a ∧ k ≤ Q ∧ a ≤ tp ∧ a = k * wd ∧ wr.ownsRow w.heap.size 9 1 ov k ((List.range k).map fun i => .string (BA (rowAt C wd i))) ∧ Ext w wr) (fun _ av _ => tp - (intOf av).toNat)
        case atStart => exact ⟨0, 0, rfl, Nat.zero_le _, Nat.zero_le _, (Nat.zero_mul _).symm, World.ownsRow_nil _ _ _ _, hx⟩
        case round =>
          obtain ⟨k, a, rfl, hk, ha, hak, hown, hx⟩ := hrel
          have HO := Lib.hid hown
          have HA := Lib.hid hak
          clear hown hak hm2 hwq
          by_cases hlt : a < tp
          · have hkq : k < Q := by
              rcases Nat.lt_or_ge k Q with h | h
              · exact h
              · have := Nat.mul_le_mul_right wd h
                rw [← HQT.out, ← HA.out] at this
                omega
            have haw : a + wd ≤ tp := by
              have := Nat.mul_le_mul_right wd (show k + 1 ≤ Q from hkq)
              rw [Nat.succ_mul, ← HQT.out, ← HA.out] at this
              exact this
            have hnx : Hid (a + wd = (k + 1) * wd) := by show _ = _; rw [Nat.succ_mul, ← HA.out]
            have hext : (BA C).extract a (a + wd) = BA (rowAt C wd k) := by
              rw [ext_BA, BA_data, Nat.add_sub_cancel_left]
              unfold rowAt
              rw [← HA.out]
            have hrg : Hid ((List.range (k + 1)).map (fun i => Value.string (BA (rowAt C wd i))) = (List.range k).map (fun i => Value.string (BA (rowAt C wd i))) ++ [.string (BA (rowAt C wd k))]) := by
              show _ = _
              rw [List.range_succ, List.map_append]; rfl
            have hka : a + wd ≤ (BA C).size := by omega
            have hk2 : k ≤ 200 := by omega
            generalize BA C = CC at *
            generalize BA (rowAt C wd k) = RW at *
            go_wp2_with (at_builtin; refine wpList_append_own _ rfl (.tmp 46) (.tmp 53) _ rfl w.heap.size 9 i0 _ 1 16 Tryd.underlying23 hi hz0 hz1 hz2 rfl (by omega) _ _ _ rfl (HO.out.alloc _) ⟨wr.heap.size, 0, none⟩ 1 1 [.string RW] rfl rfl ?c1 ?c2 ?c3 ?c4 ?c5 ?_)
            case c1 =>
              intro j u hu
              match j, hu with
              | 0, hu => simp at hu; subst hu; go_cell
            case c2 =>
              intro u hu
              simp at hu
              subst hu; rfl
            case c3 => unfold maxLen; omega
            case c4 => omega
            case c5 => (have hc5 := hx.size; try simp at hc5); simp; omega
            intro v' w2 hown2 hgr _
            have hx3 := (hx.alloc (.cells #[.string RW] 9)).grown hgr (fun k hk => (HO.out.lt k hk).1)
            have HO2 := Lib.hid hown2
            have HG := Lib.hid hgr
            clear hown2 hgr
            go_wp2_with fail
            go_roundw
            case rel =>
              refine ⟨k + 1, a + wd, by go_num, by omega, haw, hnx.out, ?_, hx3⟩
              rw [hrg.out]
              exact HO2.out
            case measure => simp [intOf]; omega
          · obtain rfl : a = tp := by omega
            have hkQ : Hid (k = Q) := by
              show k = Q
              have h1 := HA.out
              rw [HQT.out] at h1
              exact (Nat.eq_of_mul_eq_mul_right (by omega) h1).symm
            go_wp2_with fail
            refine bodyPost_ret (v := .tuple #[u9, .int .i64 0]) (by simp [results, Tryd.results11, go_sem]) rfl ?_
            rw [hfin.out, hchk.out, ← hkQ.out]
            refine ⟨_, rfl, ?_, hx⟩
            rw [List.length_map, List.length_range, List.map_map]
            exact HO.out
    · have hm' : ((tp : Int) % (wd : Int) != 0) = true := by rw [bne_iff_ne, ← Int.natCast_emod]; omega
      have hm2 : ¬ (tp : Int) % (wd : Int) = 0 := by rw [← Int.natCast_emod]; omega
      have hfin : Hid (RR = ([], 4)) := by show _ = _; rw [hRR, if_pos (Or.inr hm)]
      have HD := Lib.hid hdc
      clear hRR hm hdc
      go_enter Tryd.func11, Tryd.ntmps11
      go_wp2_with fail
      refine (HD.out _ hE hY).mono ?_
      rintro e w1 ⟨rfl, hx⟩
      go_wp2_with fail
      refine bodyPost_ret (v := .tuple #[.slice none 0 0, .int .i64 4]) (by simp [results, Tryd.results11, go_sem]) rfl ?_
      rw [hfin.out]
      exact rows_err _ _ _ _ rfl hx
end Go.Proofs.YthanegmaipckdaaDoor
