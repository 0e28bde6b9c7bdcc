/- document.cells, picture, classify: a line. (Layer 49) -/
import Derived.Test.YtapjhnlnfliljaaDoorDocLib
import Derived.WalkSpells
namespace Go.Proofs.YtapjhnlnfliljaaDoor
open Go.RowKit
open Go.Lib hiding intOf
set_option linter.unusedVariables false

theorem SL.of_blk {w : World} {g : Nat} {l : List Bytes} (h : Blk w g 9 (strsV l)) (hm : l.length ≤ maxLen) : SL w w.heap.size (.slice (some ⟨g, 0, none⟩) l.length l.length) l :=
  ⟨_, _, rfl, fun e => (by cases e), Lst.block h (by rw [strsV_len]) hm, fun _ => trivial, fun p hp => by cases hp; exact ⟨heap_lt h, _, _, h⟩⟩
theorem getLast_at (s : ByteArray) (h : 1 ≤ s.size) : s.data.toList.getLast? = some s[s.size - 1] := by
  rw [List.getLast?_eq_getElem?, List.getElem?_eq_getElem (by simp; omega)]
  simp
  rfl
set_option maxRecDepth 100000 in
set_option maxHeartbeats 1600000 in
theorem cells_any (s : ByteArray) (w : World) (hs : s.size ≤ 100000) (hE : Env w) :
    Calls Tryd.prog 38 #[.string s] w fun e w' => ∃ v, e = .returned (.tuple #[v, .int .i64 ((rowA s.data.toList).2 : Nat)]) ∧ Ext w w' ∧ ((rowA s.data.toList).2 = 0 → SL w' w'.heap.size v (cellsA s.data.toList)) ∧ ∃ A n c, v = .slice A n c := by
  have hsl : s.data.toList.length = s.size := by simp
  by_cases h2 : s.size < 2
  · have hr : rowA s.data.toList = (noB, 3) := by unfold rowA; rw [if_pos (.inl (by omega))]
    rw [hr]
    have hdt : decide ((s.size : Int) < 2) = true := decide_eq_true (by omega)
    clear hr hsl
    go_enter Tryd.func38, Tryd.ntmps38
    go_wp2_with fail
    go_ret2
    exact ⟨_, rfl, Ext.refl _, fun h => absurd h (by decide), none, 0, 0, rfl⟩
  · have hdt : decide ((s.size : Int) < 2) = false := decide_eq_false (by omega)
    have hgl := getLast_at s (by omega)
    have hidx : ((s.size : Int) - 1).toNat = s.size - 1 := by omega
    have hib : s.size - 1 < s.size := by omega
    cases hq : ((s[s.size - 1].toNat : Int) != 124) with
    | true =>
      have hr : rowA s.data.toList = (noB, 3) := by
        unfold rowA
        refine if_pos (.inr ?_)
        rw [hgl]
        intro e
        have e := Option.some.inj e
        rw [e] at hq
        exact absurd hq (by decide)
      rw [hr]
      clear hr hgl hsl
      go_enter Tryd.func38, Tryd.ntmps38
      go_wp2_with fail
      go_ret2
      exact ⟨_, rfl, Ext.refl _, fun h => absurd h (by decide), none, 0, 0, rfl⟩
    | false =>
      have hgl2 : s.data.toList.getLast? = some 124 := by
        rw [hgl]
        congr 1
        have h3 : ((s[s.size - 1].toNat : Nat) : Int) = 124 := by simpa using hq
        have : s[s.size - 1].toNat = 124 := by omega
        exact UInt8.toNat_inj.1 this
      have hx1 : (s.extract 1 (s.size - 1)).data.toList = (s.data.toList.drop 1).dropLast := by
        rw [ext_BA, BA_data, List.dropLast_eq_take, List.length_drop, hsl]
      have hcl : cellsA s.data.toList = (cutAt 124 [] (s.extract 1 (s.size - 1)).data.toList).map trimA := by unfold cellsA; rw [hx1]
      have hxz : (s.extract 1 (s.size - 1)).size ≤ s.size := by rw [ByteArray.size_extract]; omega
      have hzz : (s.extract 1 (s.size - 1)).data.toList.length ≤ 100000 := by rw [hx1, List.length_dropLast, List.length_drop]; omega
      have hsum := cutAt_sum 124 (s.extract 1 (s.size - 1)).data.toList []
      rw [List.length_nil, Nat.zero_add] at hsum
      have hmem : ∀ x ∈ cutAt 124 [] (s.extract 1 (s.size - 1)).data.toList, x.length ≤ 100001 := fun x hx => by
        have := sum_mem _ x hx
        omega
      have hlen : (cutAt 124 [] (s.extract 1 (s.size - 1)).data.toList).length ≤ 100001 := by
        have : ∀ l : List Bytes, l.length ≤ lenS l := fun l => by
          induction l with
          | nil => exact Nat.zero_le _
          | cons x l ih => rw [lenS_cons, List.length_cons]; omega
        have := this (cutAt 124 [] (s.extract 1 (s.size - 1)).data.toList)
        omega
      have hr : rowA s.data.toList = if 32 < (cellsA s.data.toList).length then (noB, 6) else (⟨3, [], [cellsA s.data.toList], [], 0⟩, 0) := by
        unfold rowA
        rw [if_neg]
        intro h
        rcases h with h | h
        · omega
        · exact h hgl2
      rw [hr, hcl, List.length_map]
      have HS := Lib.hid (split_any 124 (s.extract 1 (s.size - 1)) w (by omega) hE)
      generalize cutAt 124 [] (s.extract 1 (s.size - 1)).data.toList = ps at *
      have HM := Lib.hid hmem
      obtain ⟨N, hN⟩ : ∃ N, N = ps.length := ⟨_, rfl⟩
      have HN := Lib.hid hN
      rw [← hN] at HS hlen ⊢
      clear hr hgl hgl2 hx1 hcl hsum hmem hsl hE hN hxz hzz
      by_cases h32 : 32 < N
      · rw [if_pos h32]
        have hd : decide ((32 : Int) < (N : Int)) = true := decide_eq_true (by omega)
        go_enter Tryd.func38, Tryd.ntmps38
        go_wp2_with fail
        refine HS.out.mono ?_
        rintro e w1 ⟨rfl, hb, hx⟩
        clear hb
        go_wp2_with fail
        go_ret2
        exact ⟨_, rfl, hx, fun h => absurd h (by decide), none, 0, 0, rfl⟩
      · rw [if_neg h32]
        have hd : decide ((32 : Int) < (N : Int)) = false := decide_eq_false (by omega)
        go_enter Tryd.func38, Tryd.ntmps38
        go_wp2_with fail
        refine HS.out.mono ?_
        rintro e w1 ⟨rfl, hb, hx⟩
        have HB := Lib.hid hb
        obtain ⟨g, hg⟩ : ∃ g, g = w.heap.size := ⟨_, rfl⟩
        rw [← hg] at HB ⊢
        have hgw : w.heap.size ≤ g := Nat.le_of_eq hg.symm
        clear hb hg
        go_wp2_with fail
        go_loopw [29] (fun i wr => ∃ k : Nat, k ≤ N ∧ i = .int .i64 k ∧ Blk wr g 9 (strsV ((ps.take k).map trimA ++ ps.drop k)) ∧ Ext w wr) (fun i _ => N - (intOf i).toNat)
        case atStart => exact ⟨0, Nat.zero_le _, rfl, HB.out, hx⟩
        case round =>
          obtain ⟨k, hk, rfl, hbk, hxk⟩ := hrel
          by_cases hkN : k < N
          · have hkp : k < ps.length := by rw [← HN.out]; exact hkN
            have htl : ((ps.take k).map trimA).length = k := by rw [List.length_map, List.length_take]; omega
            have hget : ((ps.take k).map trimA ++ ps.drop k)[k]? = some ps[k] := by
              rw [List.getElem?_append_right (by omega), htl, Nat.sub_self, List.getElem?_drop, Nat.add_zero, List.getElem?_eq_getElem hkp]
            have hc := hbk.cell (i := k) (strsV_get _ k _ hget)
            have hf := blk_free hbk k
            have hset : ((ps.take k).map trimA ++ ps.drop k).set k (trimA ps[k]) = (ps.take (k + 1)).map trimA ++ ps.drop (k + 1) := by
              rw [List.set_append_right _ _ (by omega), htl, Nat.sub_self, List.take_succ_eq_append_getElem hkp, List.map_append, List.drop_eq_getElem_cons hkp, List.set_cons_zero]
              simp
            have hm := HM.out ps[k] (List.getElem_mem hkp)
            have HT := Lib.hid (fun W => trimD_any (BA ps[k]) W (by rw [BA_size]; exact hm))
            rw [BA_data] at HT
            have HSET := Lib.hid hset
            have HBK := Lib.hid hbk
            generalize hX : ps[k] = x at *
            clear hset hbk hget htl hm hX hkp
            generalize trimA x = y at *
            go_wp2_with fail
            refine (HT.out _).mono ?_
            rintro e w2 ⟨rfl, hx2⟩
            have hb2 := HBK.out.ext hx2
            have hc2 := hx2.cell hc
            have hf2 := blk_free hb2 k
            have HB2 := Lib.hid hb2
            clear hb2 hc hf
            go_wp2_with fail
            go_roundw
            case rel => exact ⟨k + 1, by omega, by go_num, by rw [← HSET.out, ← strsV_set]; exact blk_put HB2.out k _, (hxk.trans hx2).set hgw _⟩
            case measure => simp [intOf]; omega
          · obtain rfl : k = N := by omega
            have hfin : (ps.take k).map trimA ++ ps.drop k = ps.map trimA := by rw [HN.out, List.take_length, List.drop_length, List.append_nil]
            rw [hfin] at hbk
            have HBK := Lib.hid hbk
            clear hbk hfin
            go_wp2_with fail
            go_ret2
            refine ⟨_, rfl, hxk, fun _ => ?_, _, _, _, rfl⟩
            have hl : (ps.map trimA).length = k := by rw [List.length_map, HN.out]
            have h := SL.of_blk HBK.out (by rw [hl]; unfold maxLen; omega)
            rw [hl] at h
            exact h
set_option maxRecDepth 100000 in
set_option maxHeartbeats 3200000 in
theorem picture_any (s : ByteArray) (w : World) (hs : s.size ≤ 100000) (hE : Env w) (hS : Sy w) :
    Calls Tryd.prog 39 #[.string s] w fun e w' => e = .returned (.tuple #[.int .i64 ((picA s.data.toList).1.width : Nat), .string (BA (picA s.data.toList).1.runs), .int .i64 ((picA s.data.toList).2 : Nat)]) ∧ Ext w w' := by
  have HC := Lib.hid (cutD_any s w hs hE)
  have hsl : s.data.toList.length = s.size := by simp
  obtain ⟨num, hnum⟩ : ∃ num, num = s.data.toList.takeWhile (· ≠ 32) := ⟨_, rfl⟩
  obtain ⟨runs, hruns⟩ : ∃ runs, runs = s.data.toList.drop (num.length + 1) := ⟨_, rfl⟩
  have hnl : num.length ≤ 100000 := by rw [hnum]; have := (List.takeWhile_prefix (l := s.data.toList) (fun x : UInt8 => decide (x ≠ 32))).length_le; omega
  have hp : picA s.data.toList = (match widthA num with | none => (noB, 3) | some n => if runs = [] ∨ runs.contains 32 = true then (noB, 3) else (⟨4, [], [], runs, n⟩, 0)) := by
    rw [hruns, hnum]
    rfl
  have hno : s.data.toList.contains 32 = false → runs = [] := by
    intro h
    have h32 : (32 : UInt8) ∉ s.data.toList := by simpa using h
    have : num = s.data.toList := by
      rw [hnum]
      exact tw_self _ _ (fun x hx => by simp; exact fun e => h32 (e ▸ hx))
    rw [hruns, this]
    simp
  rw [← hnum, ← hruns] at HC
  have HA := Lib.hid (fun W (h : Ext w W) => atoiD_any num W hnl (hS.ext h))
  have HI := Lib.hid (fun v (h1 : -9223372036854775808 ≤ v) (h2 : v ≤ 9223372036854775807) W (h : Ext w W) => itoa_any v h1 h2 W (hE.ext h))
  have HCo := Lib.hid (fun W => containsD_any runs W)
  obtain ⟨R, hR⟩ : ∃ R, R = picA s.data.toList := ⟨_, rfl⟩
  rw [← hR]
  rw [hp] at hR
  have HR := Lib.hid hR
  clear hR
  generalize s.data.toList.contains 32 = hasSp at *
  have HNO := Lib.hid hno
  clear hnum hruns hp hE hS hsl hno
  cases hasSp with
  | false =>
    have hr : (match widthA num with | none => (noB, 3) | some n => if runs = [] ∨ runs.contains 32 = true then (noB, 3) else (⟨4, [], [], runs, n⟩, 0)) = ((noB, 3) : DB × Nat) := by
      split
      · rfl
      · rw [if_pos (.inl (HNO.out rfl))]
    have HR3 : Hid (R = (noB, 3)) := HR.out.trans hr
    clear hr
    go_enter Tryd.func39, Tryd.ntmps39
    go_wp2_with fail
    refine HC.out.mono ?_
    rintro e w1 ⟨rfl, hx1⟩
    go_wp2_with fail
    refine (HA.out _ hx1).mono ?_
    rintro e w2 ⟨v, ev, rfl, hx2, hv1, hv2, hv⟩
    clear hv
    go_wp2_with fail
    exact bodyPost_ret (v := .tuple #[.int .i64 0, .string ⟨#[]⟩, .int .i64 3]) (by simp [results, Tryd.results39, go_sem]) rfl ⟨by rw [HR3.out]; rfl, hx1.trans hx2⟩
  | true =>
    go_enter Tryd.func39, Tryd.ntmps39
    go_wp2_with fail
    refine HC.out.mono ?_
    rintro e w1 ⟨rfl, hx1⟩
    go_wp2_with fail
    refine (HA.out _ hx1).mono ?_
    rintro e w2 ⟨v, ev, rfl, hx2, hv1, hv2, hv⟩
    rcases hv with ⟨hok, rfl⟩ | ⟨hbad, T, q, rfl⟩
    rotate_left
    · have HR3 : Hid (R = (noB, 3)) := by show _ = _; rw [HR.out, width_none num hbad]
      clear hbad
      go_wp2_with fail
      exact bodyPost_ret (v := .tuple #[.int .i64 0, .string ⟨#[]⟩, .int .i64 3]) (by simp [results, Tryd.results39, go_sem]) rfl ⟨by rw [HR3.out]; rfl, hx1.trans hx2⟩
    · have hx12 := hx1.trans hx2
      have HIT := Lib.hid (HI.out v hv1 hv2 w2 hx12)
      have HOK := Lib.hid hok
      clear hok hx1 hx2
      have hsame : ((BA (Lib.itoa v)).toList == (BA num).toList) = decide (Lib.itoa v = num) := by
        rw [ByteArray.toList_eq, ByteArray.toList_eq, BA_data, BA_data]
        rw [Bool.eq_iff_iff, beq_iff_eq, decide_eq_true_iff]
      have hnil : ((BA runs).toList == []) = decide (runs = []) := by
        rw [ByteArray.toList_eq, BA_data, Bool.eq_iff_iff, beq_iff_eq, decide_eq_true_iff]
      have hwn : ∀ (h : ¬ (Lib.itoa v = num ∧ 1 ≤ v ∧ v ≤ 200)), widthA num = none := by
        intro h
        cases hw : widthA num with
        | none => rfl
        | some n =>
          exfalso
          have hvn := width_ok num n v hw HOK.out
          obtain ⟨-, h4, h5⟩ := widthA_some hw
          exact h ((width_iff num v HOK.out).2 ⟨by rw [hw, hvn]; rfl, by omega⟩)
      have HWN := Lib.hid hwn
      have HWS := Lib.hid (fun h => ((width_iff num v HOK.out).1 h).1)
      generalize BA (Lib.itoa v) = ti at *
      clear hwn
      by_cases c1 : Lib.itoa v = num
      rotate_left
      · have HR3 : Hid (R = (noB, 3)) := by show _ = _; rw [HR.out, HWN.out (fun h => c1 h.1)]
        rw [decide_eq_false c1] at hsame
        clear hnil c1
        go_wp2_with fail
        refine HIT.out.mono ?_
        rintro e w3 ⟨rfl, hx3⟩
        go_wp2_with fail
        exact bodyPost_ret (v := .tuple #[.int .i64 0, .string ⟨#[]⟩, .int .i64 3]) (by simp [results, Tryd.results39, go_sem]) rfl ⟨by rw [HR3.out]; rfl, hx12.trans hx3⟩
      rw [decide_eq_true c1] at hsame
      by_cases c2 : 1 ≤ v
      rotate_left
      · have HR3 : Hid (R = (noB, 3)) := by show _ = _; rw [HR.out, HWN.out (fun h => c2 h.2.1)]
        have hd2 : decide (v < 1) = true := decide_eq_true (by omega)
        clear hnil c1 c2
        go_wp2_with fail
        refine HIT.out.mono ?_
        rintro e w3 ⟨rfl, hx3⟩
        go_wp2_with fail
        exact bodyPost_ret (v := .tuple #[.int .i64 0, .string ⟨#[]⟩, .int .i64 3]) (by simp [results, Tryd.results39, go_sem]) rfl ⟨by rw [HR3.out]; rfl, hx12.trans hx3⟩
      have hd2 : decide (v < 1) = false := decide_eq_false (by omega)
      by_cases c3 : v ≤ 200
      rotate_left
      · have HR3 : Hid (R = (noB, 3)) := by show _ = _; rw [HR.out, HWN.out (fun h => c3 h.2.2)]
        have hd3 : decide (200 < v) = true := decide_eq_true (by omega)
        clear hnil c1 c2 c3
        go_wp2_with fail
        refine HIT.out.mono ?_
        rintro e w3 ⟨rfl, hx3⟩
        go_wp2_with fail
        exact bodyPost_ret (v := .tuple #[.int .i64 0, .string ⟨#[]⟩, .int .i64 3]) (by simp [results, Tryd.results39, go_sem]) rfl ⟨by rw [HR3.out]; rfl, hx12.trans hx3⟩
      have hd3 : decide (200 < v) = false := decide_eq_false (by omega)
      have hR2 := HR.out
      rw [HWS.out ⟨c1, c2, c3⟩] at hR2
      obtain ⟨n, rfl⟩ : ∃ n : Nat, v = (n : Int) := ⟨v.toNat, by omega⟩
      rw [show ((n : Int)).toNat = n from rfl] at hR2
      dsimp only at hR2
      clear c1 c2 c3 HWN HWS HOK
      by_cases c4 : runs = []
      · rw [if_pos (.inl c4)] at hR2
        have HR3 := Lib.hid hR2
        clear hR2
        rw [decide_eq_true c4] at hnil
        clear c4
        go_wp2_with fail
        refine HIT.out.mono ?_
        rintro e w3 ⟨rfl, hx3⟩
        go_wp2_with fail
        exact bodyPost_ret (v := .tuple #[.int .i64 0, .string ⟨#[]⟩, .int .i64 3]) (by simp [results, Tryd.results39, go_sem]) rfl ⟨by rw [HR3.out]; rfl, hx12.trans hx3⟩
      rw [decide_eq_false c4] at hnil
      cases c5 : runs.contains 32 with
      | true =>
        rw [if_pos (.inr c5)] at hR2
        have HR3 := Lib.hid hR2
        clear hR2
        rw [c5] at HCo
        clear c4 c5
        go_wp2_with fail
        refine HIT.out.mono ?_
        rintro e w3 ⟨rfl, hx3⟩
        go_wp2_with fail
        refine (HCo.out _).mono ?_
        rintro e w4 ⟨rfl, rfl⟩
        go_wp2_with fail
        exact bodyPost_ret (v := .tuple #[.int .i64 0, .string ⟨#[]⟩, .int .i64 3]) (by simp [results, Tryd.results39, go_sem]) rfl ⟨by rw [HR3.out]; rfl, hx12.trans hx3⟩
      | false =>
        rw [if_neg (by rintro (h | h); exact c4 h; rw [c5] at h; cases h)] at hR2
        have HR3 := Lib.hid hR2
        clear hR2
        rw [c5] at HCo
        clear c4 c5
        go_wp2_with fail
        refine HIT.out.mono ?_
        rintro e w3 ⟨rfl, hx3⟩
        go_wp2_with fail
        refine (HCo.out _).mono ?_
        rintro e w4 ⟨rfl, rfl⟩
        go_wp2_with fail
        exact bodyPost_ret (v := .tuple #[.int .i64 (n : Int), .string (BA runs), .int .i64 0]) (by simp [results, Tryd.results39, go_sem]) rfl ⟨by rw [HR3.out]; rfl, hx12.trans hx3⟩
theorem five {w : World} {b : Nat} {T : TypeId} {x0 x1 x2 x3 x4 : Value} (h : Blk w b T [x0, x1, x2, x3, x4]) :
    (w.cell? ⟨b, 0, none⟩ = some x0 ∧ w.cell? ⟨b, 1, none⟩ = some x1 ∧ w.cell? ⟨b, 2, none⟩ = some x2 ∧ w.cell? ⟨b, 3, none⟩ = some x3 ∧ w.cell? ⟨b, 4, none⟩ = some x4) ∧ (∀ i, w.frozen? ⟨b, i, none⟩ = false) ∧ b < w.heap.size :=
  ⟨⟨h.cell rfl, h.cell rfl, h.cell rfl, h.cell rfl, h.cell rfl⟩, fun i => blk_free h i, h.lt⟩
theorem blk_not {w : World} {b : Nat} {T e : TypeId} {xs : List Value} (h : Blk w b T xs) (he : T ≠ e) : ∀ cs fz, w.heap[b]? ≠ some (.cells cs e fz) := by
  intro cs fz hc
  unfold Blk at h
  rw [h] at hc
  simp only [Option.some.injEq, Obj.cells.injEq] at hc
  exact he hc.2.1
theorem keep5 (b : Nat) (w : World) (v0 v1 v2 v3 v4 : Value) : Keep b w (((((w.setCell ⟨b, 0, none⟩ v0).setCell ⟨b, 1, none⟩ v1).setCell ⟨b, 2, none⟩ v2).setCell ⟨b, 3, none⟩ v3).setCell ⟨b, 4, none⟩ v4) :=
  ((((Keep.set 0 v0).trans (Keep.set 1 v1)).trans (Keep.set 2 v2)).trans (Keep.set 3 v3)).trans (Keep.set 4 v4)
theorem ext5 {w0 w : World} {b : Nat} (h : Ext w0 w) (hb : w0.heap.size ≤ b) (v0 v1 v2 v3 v4 : Value) : Ext w0 (((((w.setCell ⟨b, 0, none⟩ v0).setCell ⟨b, 1, none⟩ v1).setCell ⟨b, 2, none⟩ v2).setCell ⟨b, 3, none⟩ v3).setCell ⟨b, 4, none⟩ v4) :=
  ((((h.set hb _).set hb _).set hb _).set hb _).set hb _
theorem size5 (b : Nat) (w : World) (v0 v1 v2 v3 v4 : Value) : (((((w.setCell ⟨b, 0, none⟩ v0).setCell ⟨b, 1, none⟩ v1).setCell ⟨b, 2, none⟩ v2).setCell ⟨b, 3, none⟩ v3).setCell ⟨b, 4, none⟩ v4).heap.size = w.heap.size := by simp [World.setCell]
/-- what a line holds -/
structure LineV (w : World) (m : Nat) (b : DB) (vw vc : Value) : Prop where
  one : b.kind = 1 → SL w w.heap.size vw b.words
  two : b.kind = 2 → w.ownsRow m 9 1 vw b.words.length (strsV b.words)
  three : b.kind = 3 → ∃ r, b.rows = [r] ∧ SL w w.heap.size vc r
  nilw : b.kind ≠ 1 → b.kind ≠ 2 → vw = .slice none 0 0
/-- what classify answers -/
def CPost (w : World) (R : DB × Nat) (e : Ending) (w' : World) : Prop :=
  ∃ (k : Nat) (vw vc : Value) (r : ByteArray) (wd : Nat), e = .returned (.tuple #[.agg #[.int .i64 (k : Int), vw, vc, .string r, .int .i64 (wd : Int)], .int .i64 (R.2 : Nat)]) ∧ Ext w w' ∧ (∃ A n c, vw = .slice A n c) ∧ (∃ A n c, vc = .slice A n c) ∧ (R.2 = 0 → k = R.1.kind ∧ r = BA R.1.runs ∧ wd = R.1.width ∧ LineV w' w.heap.size R.1 vw vc)
theorem lineA_bad (l : Bytes) (h : l.all okD = false) : lineA l = (noB, 3) := by unfold lineA; exact if_pos h
theorem lineA_ok (l : Bytes) (h : l.all okD = true) : lineA l = if wordsA l = [] then (noB, 0) else if l.head? = some 124 then rowA l
  else if hasPrefix l [35, 32] = true then (if (wordsA l).length < 2 then (noB, 3) else (⟨1, (wordsA l).tail, [], [], 0⟩, 0))
  else if hasPrefix l [33, 32] = true then picA (l.drop 2) else (⟨2, wordsA l, [], [], 0⟩, 0) := by
  conv => lhs; unfold lineA
  rw [if_neg (by rw [h]; decide)]
set_option maxRecDepth 100000 in
set_option maxHeartbeats 6400000 in
theorem classify_any (s : ByteArray) (w : World) (hs : s.size ≤ 100000) (hE : Env w) (hS : Sy w) :
    Calls Tryd.prog 21 #[.string s] w (CPost w (lineA s.data.toList)) := by
  have hsl : s.data.toList.length = s.size := by simp
  obtain ⟨R, hR⟩ : ∃ R, R = lineA s.data.toList := ⟨_, rfl⟩
  rw [← hR]
  have HR := Lib.hid hR
  obtain ⟨w0, hw0⟩ : ∃ W, W = w.alloc (.cells #[.int .i64 0, .slice none 0 0, .slice none 0 0, .string ⟨#[]⟩, .int .i64 0] 42) := ⟨_, rfl⟩
  have hx0 : Ext w w0 := by rw [hw0]; exact (Ext.refl w).alloc _
  have HB0 : Hid (Blk w0 w.heap.size 42 [.int .i64 0, .slice none 0 0, .slice none 0 0, .string ⟨#[]⟩, .int .i64 0]) := by rw [hw0]; exact heap_alloc_new w _
  have HW := Lib.hid (words_any s w0 hs (hE.ext hx0))
  have HX0 := Lib.hid hx0
  have HEE := Lib.hid hE
  have HSS := Lib.hid hS
  clear hR hE hS hx0
  go_enter Tryd.func21, Tryd.ntmps21
  go_wp2_with fail
  rw [← hw0]
  obtain ⟨b, hb⟩ : ∃ b, b = w.heap.size := ⟨_, rfl⟩
  have HBB := Lib.hid hb
  have hbw : w.heap.size ≤ b := Nat.le_of_eq hb.symm
  rw [← hb] at HB0 ⊢
  clear hw0 hb
  go_loopw [13] (fun i wr => wr = w0 ∧ ∃ k : Nat, k ≤ s.size ∧ i = .int .i64 k ∧ (s.data.toList.take k).all okD = true) (fun i _ => s.size - (intOf i).toNat)
  case atStart => exact ⟨rfl, 0, Nat.zero_le _, rfl, rfl⟩
  case round =>
    obtain ⟨rfl, k, hk, rfl, hall⟩ := hrel
    by_cases hks : k < s.size
    · have hkl : k < s.data.toList.length := by omega
      have hstep : (s.data.toList.take (k + 1)).all okD = okD s[k] := by
        rw [List.take_succ_eq_append_getElem hkl, List.all_append, hall]
        simp
        rfl
      have hbad : okD s[k] = false → R = (noB, 3) := fun h => by
        rw [HR.out]
        refine lineA_bad _ ?_
        rw [List.all_eq_false]
        exact ⟨s.data.toList[k], List.getElem_mem hkl, by rw [show s.data.toList[k] = s[k] from rfl, h]; decide⟩
      have hok : okD s[k] = (decide (32 ≤ s[k].toNat) && decide (s[k].toNat ≤ 126)) := rfl
      have HST := Lib.hid hstep
      have HBAD := Lib.hid hbad
      obtain ⟨c, hc⟩ : ∃ c, c = s[k] := ⟨_, rfl⟩
      rw [← hc] at HST HBAD hok
      have hcn : s[k].toNat = c.toNat := by rw [hc]
      clear hstep hbad hall hc
      obtain ⟨⟨p0, p1, p2, p3, p4⟩, hfz, hlt⟩ := five HB0.out
      have y0 := hfz 0
      have y1 := hfz 1
      have y2 := hfz 2
      have y3 := hfz 3
      have y4 := hfz 4
      have HOK := Lib.hid hok
      clear hfz hok
      rcases (by omega : c.toNat < 32 ∨ (32 ≤ c.toNat ∧ c.toNat ≤ 126) ∨ 126 < c.toNat) with h1 | ⟨h1, h2⟩ | h1
      · have hd : decide ((s[k].toNat : Int) < 32) = true := decide_eq_true (by omega)
        have HN : Hid (okD c = false) := by show _ = _; rw [HOK.out, decide_eq_false (by omega)]; rfl
        clear h1 hcn
        go_wp2_with fail
        exact bodyPost_ret (v := .tuple #[.agg #[.int .i64 0, .slice none 0 0, .slice none 0 0, .string ⟨#[]⟩, .int .i64 0], .int .i64 3]) (by simp [results, Tryd.results21, go_sem, p0, p1, p2, p3, p4]) rfl ⟨0, _, _, _, 0, by rw [HBAD.out HN.out]; rfl, ext5 HX0.out hbw _ _ _ _ _, ⟨_, _, _, rfl⟩, ⟨_, _, _, rfl⟩, fun h => by rw [HBAD.out HN.out] at h; cases h⟩
      · have hd : decide ((s[k].toNat : Int) < 32) = false := decide_eq_false (by omega)
        have hd2 : decide ((126 : Int) < (s[k].toNat : Int)) = false := decide_eq_false (by omega)
        have HN : Hid (okD c = true) := by show _ = _; rw [HOK.out, decide_eq_true h1, decide_eq_true h2]; rfl
        clear h1 h2 hcn
        go_wp2_with fail
        go_roundw
        case rel => exact ⟨trivial, k + 1, by omega, by go_num, by rw [HST.out, HN.out]⟩
        case measure => simp [intOf]; omega
      · have hd : decide ((s[k].toNat : Int) < 32) = false := decide_eq_false (by omega)
        have hd2 : decide ((126 : Int) < (s[k].toNat : Int)) = true := decide_eq_true (by omega)
        have HN : Hid (okD c = false) := by show _ = _; rw [HOK.out, decide_eq_false (show ¬ c.toNat ≤ 126 by omega)]; simp
        clear h1 hcn
        go_wp2_with fail
        exact bodyPost_ret (v := .tuple #[.agg #[.int .i64 0, .slice none 0 0, .slice none 0 0, .string ⟨#[]⟩, .int .i64 0], .int .i64 3]) (by simp [results, Tryd.results21, go_sem, p0, p1, p2, p3, p4]) rfl ⟨0, _, _, _, 0, by rw [HBAD.out HN.out]; rfl, ext5 HX0.out hbw _ _ _ _ _, ⟨_, _, _, rfl⟩, ⟨_, _, _, rfl⟩, fun h => by rw [HBAD.out HN.out] at h; cases h⟩
    · obtain rfl : k = s.size := by omega
      rw [← hsl, List.take_length] at hall
      have hR2 := HR.out.trans (lineA_ok _ hall)
      have HR2 := Lib.hid hR2
      have hne : wordsA s.data.toList ≠ [] → 1 ≤ s.size := fun h => by
        rcases Nat.eq_zero_or_pos s.size with h0 | h0
        · exfalso
          have : s.data.toList = [] := List.eq_nil_of_length_eq_zero (by omega)
          rw [this] at h
          exact h rfl
        · exact h0
      have HNE := Lib.hid hne
      clear hR2 hall hk hks hne
      go_wp2_with fail
      refine HW.out.mono ?_
      rintro e w1 ⟨v, rfl, hown, hx1⟩
      obtain ⟨A1, c1, rfl, hl1⟩ := Lst.of_own hown
      have hrm := hl1.room
      have hmx := hl1.max
      unfold maxLen at hmx
      have HO := Lib.hid hown
      have HB1 := Lib.hid (HB0.out.ext hx1)
      have HX1 := Lib.hid (HX0.out.trans hx1)
      obtain ⟨⟨p0, p1, p2, p3, p4⟩, hfz, hlt⟩ := five HB1.out
      have y0 := hfz 0
      have y1 := hfz 1
      have y2 := hfz 2
      have y3 := hfz 3
      have y4 := hfz 4
      have HTY := Lib.hid (blk_not HB1.out (show 42 ≠ 9 by decide))
      clear hfz hown hl1 hx1 HB0
      obtain ⟨ws, hws⟩ : ∃ ws, ws = wordsA s.data.toList := ⟨_, rfl⟩
      rw [← hws] at HO HR2 HNE hrm ⊢
      have HWS := Lib.hid hws
      clear hws
      by_cases c0 : ws = []
      · have h0 : ws.length = 0 := by rw [c0]; rfl
        have hR3 : R = (noB, 0) := HR2.out.trans (if_pos c0)
        have HR3 := Lib.hid hR3
        rw [h0]
        clear c0 h0 hR3 hrm
        go_wp2_with fail
        exact bodyPost_ret (v := .tuple #[.agg #[.int .i64 0, .slice none 0 0, .slice none 0 0, .string ⟨#[]⟩, .int .i64 0], .int .i64 0]) (by simp [results, Tryd.results21, go_sem, p0, p1, p2, p3, p4]) rfl ⟨0, _, _, _, 0, by rw [HR3.out]; rfl, ext5 HX1.out hbw _ _ _ _ _, ⟨_, _, _, rfl⟩, ⟨_, _, _, rfl⟩, fun _ => by
          rw [HR3.out]
          exact ⟨rfl, rfl, rfl, fun h => absurd h (by decide), fun h => absurd h (by decide), fun h => absurd h (by decide), fun _ _ => rfl⟩⟩
      have hR3 := HR2.out
      rw [if_neg c0] at hR3
      have hs1 := HNE.out c0
      have hwl : 1 ≤ ws.length := by
        cases ws with
        | nil => exact absurd rfl c0
        | cons a b => simp
      obtain ⟨n, hn⟩ : ∃ n, n = ws.length := ⟨_, rfl⟩
      rw [← hn] at HO hrm hwl ⊢
      have HN := Lib.hid hn
      have hnz : ((n : Int) == 0) = false := by simp; omega
      have hhd : (s.data.toList.head? = some 124) ↔ s[0].toNat = 124 := by
        have : s.data.toList.head? = some s[0] := by
          rw [List.head?_eq_getElem?, List.getElem?_eq_getElem (by omega)]
          rfl
        rw [this]
        constructor
        · intro e; rw [Option.some.inj e]; rfl
        · intro e; congr 1; exact UInt8.toNat_inj.1 e
      by_cases c1' : s.data.toList.head? = some 124
      · rw [if_pos c1'] at hR3
        have hq : ((s[0].toNat : Int) == 124) = true := by have := hhd.1 c1'; simp; omega
        have HR3 := Lib.hid hR3
        have HC := Lib.hid (cells_any s w1 hs (HEE.out.ext HX1.out))
        have hgood := lineA_good s.data.toList
        rw [← HR.out] at hgood
        have HG := Lib.hid hgood
        clear c0 hR3 hhd c1' hn hgood
        go_wp2_with fail
        refine HC.out.mono ?_
        rintro e w2 ⟨v, rfl, hx2, hok, A2, n2, c2, rfl⟩
        have hb2 := HB1.out.ext hx2
        obtain ⟨⟨q0, q1, q2, q3, q4⟩, hfz, hlt2⟩ := five hb2
        have z0 := hfz 0
        have z1 := hfz 1
        have z2 := hfz 2
        have z3 := hfz 3
        have z4 := hfz 4
        have hx12 := HX1.out.trans hx2
        have HT2 := Lib.hid (blk_not hb2 (show 42 ≠ 9 by decide))
        have HOK := Lib.hid hok
        clear hb2 hfz hok p0 p1 p2 p3 p4 y0 y1 y2 y3 y4 hx2
        go_wp2_with fail
        refine bodyPost_ret (v := .tuple #[.agg #[.int .i64 3, .slice none 0 0, .slice A2 n2 c2, .string ⟨#[]⟩, .int .i64 0], .int .i64 ((rowA s.data.toList).2 : Nat)]) (by simp [results, Tryd.results21, go_sem, q0, q1, q2, q3, q4]) rfl ⟨3, _, _, _, 0, by rw [HR3.out]; rfl, ext5 hx12 hbw _ _ _ _ _, ⟨_, _, _, rfl⟩, ⟨_, _, _, rfl⟩, fun h => ?_⟩
        rw [HR3.out] at h
        have hsl2 := HOK.out h
        have hr : rowA s.data.toList = (⟨3, [], [cellsA s.data.toList], [], 0⟩, 0) := by
          unfold rowA at h ⊢
          split at h
          · cases h
          split at h
          · cases h
          · rename_i h1 h2; rw [if_neg h1, if_neg h2]
        rw [HR3.out, hr]
        refine ⟨rfl, rfl, rfl, fun h => absurd (show (3 : Nat) = 1 from h) (by decide), fun h => absurd (show (3 : Nat) = 2 from h) (by decide), fun _ => ⟨_, rfl, ?_⟩, fun _ _ => rfl⟩
        rw [size5]
        exact hsl2.keep (keep5 _ _ _ _ _ _ _) (.inr HT2.out)
      rw [if_neg c1'] at hR3
      have hq : ((s[0].toNat : Int) == 124) = false := by have h1 : ¬ s[0].toNat = 124 := fun e => c1' (hhd.2 e); simp; omega
      have HP1 := Lib.hid (fun W => prefixD_any s ⟨#[35, 32]⟩ W)
      have HP2 := Lib.hid (fun W => prefixD_any s ⟨#[33, 32]⟩ W)
      rw [show (⟨#[35, 32]⟩ : ByteArray).data.toList = [35, 32] from rfl] at HP1
      rw [show (⟨#[33, 32]⟩ : ByteArray).data.toList = [33, 32] from rfl] at HP2
      have hpl : hasPrefix s.data.toList [33, 32] = true → 2 ≤ s.size := fun h => by
        have := (List.isPrefixOf_iff_prefix.1 h).length_le
        simp at this
        omega
      clear hhd c1' c0
      cases c2 : hasPrefix s.data.toList [35, 32] with
      | true =>
        rw [if_pos c2] at hR3
        rw [c2] at HP1
        by_cases c3 : ws.length < 2
        · rw [if_pos c3] at hR3
          have hd : decide ((n : Int) < 2) = true := decide_eq_true (by rw [hn]; omega)
          have HR3 := Lib.hid hR3
          clear hR3 c2 c3 hn
          go_wp2_with fail
          refine (HP1.out _).mono ?_
          rintro e w2 ⟨rfl, rfl⟩
          go_wp2_with fail
          exact bodyPost_ret (v := .tuple #[.agg #[.int .i64 0, .slice none 0 0, .slice none 0 0, .string ⟨#[]⟩, .int .i64 0], .int .i64 3]) (by simp [results, Tryd.results21, go_sem, p0, p1, p2, p3, p4]) rfl ⟨0, _, _, _, 0, by rw [HR3.out]; rfl, ext5 HX1.out hbw _ _ _ _ _, ⟨_, _, _, rfl⟩, ⟨_, _, _, rfl⟩, fun h => by rw [HR3.out] at h; cases h⟩
        · rw [if_neg c3] at hR3
          have hd : decide ((n : Int) < 2) = false := decide_eq_false (by rw [hn]; omega)
          have hn2 : 2 ≤ n := by omega
          obtain ⟨g, cap, e1, k1, k2, k3, k4, k5, ⟨cs, k6⟩, -⟩ := own_put HO.out (by omega)
          have e2 : A1 = some ⟨g, 0, none⟩ ∧ c1 = cap := by injection e1 with e1 e2 e3; exact ⟨e1, e3⟩
          obtain ⟨rfl, rfl⟩ := e2
          unfold maxLen at k2
          have hsl3 : SL w1 w1.heap.size (.slice (some ⟨g, 1, none⟩) (n - 1) (c1 - 1)) ws.tail := by
            have hl : ws.tail.length = n - 1 := by rw [List.length_tail, hn]
            rw [← hl]
            refine ⟨_, _, rfl, fun e => (by cases e), ⟨by rw [strsV_len], by omega, by unfold maxLen; omega, fun _ => ⟨g, 1, rfl, fun i hi => ?_⟩⟩, fun _ => trivial, fun p hp => by cases hp; exact ⟨heap_lt k6, _, _, k6⟩⟩
            rw [strsV_len] at hi
            have := k4 (1 + i) (.string (BA ws.tail[i])) (strsV_get _ _ _ (by rw [Nat.add_comm, ← List.getElem?_tail, List.getElem?_eq_getElem hi]))
            rw [this]
            simp only [strsV, List.getElem_map]
          have HSL := Lib.hid hsl3
          have HR3 := Lib.hid hR3
          have hcc : ¬ c1 = 1 := by omega
          clear hR3 c2 c3 hn hsl3 k4 k5 k6 e1
          go_wp2_with fail
          refine (HP1.out _).mono ?_
          rintro e w2 ⟨rfl, rfl⟩
          go_wp2_with fail
          refine bodyPost_ret (v := .tuple #[.agg #[.int .i64 1, .slice (some ⟨g, 1, none⟩) (n - 1) (c1 - 1), .slice none 0 0, .string ⟨#[]⟩, .int .i64 0], .int .i64 0]) (by simp [results, Tryd.results21, go_sem, p0, p1, p2, p3, p4]) rfl ⟨1, _, _, _, 0, by rw [HR3.out]; rfl, ext5 HX1.out hbw _ _ _ _ _, ⟨_, _, _, rfl⟩, ⟨_, _, _, rfl⟩, fun _ => ?_⟩
          rw [HR3.out]
          refine ⟨rfl, rfl, rfl, fun _ => ?_, fun h => absurd (show (1 : Nat) = 2 from h) (by decide), fun h => absurd (show (1 : Nat) = 3 from h) (by decide), fun h => absurd rfl h⟩
          rw [size5]
          exact HSL.out.keep (keep5 _ _ _ _ _ _ _) (.inr HTY.out)
      | false =>
        rw [if_neg (by rw [c2]; decide)] at hR3
        rw [c2] at HP1
        cases c4 : hasPrefix s.data.toList [33, 32] with
        | true =>
          rw [if_pos c4] at hR3
          rw [c4] at HP2
          have hs2 := hpl c4
          have hx : (s.extract 2 s.size).data.toList = s.data.toList.drop 2 := by
            rw [ext_BA, BA_data, List.take_of_length_le (by rw [List.length_drop]; omega)]
          have HPI := Lib.hid (picture_any (s.extract 2 s.size) w1 (by rw [ByteArray.size_extract]; omega) (HEE.out.ext HX1.out) (HSS.out.ext HX1.out))
          rw [hx] at HPI
          have HR3 := Lib.hid hR3
          have hgood := lineA_good s.data.toList
          rw [← HR.out, hR3] at hgood
          have HG := Lib.hid hgood
          obtain ⟨Q, hQ⟩ : ∃ Q, Q = picA (s.data.toList.drop 2) := ⟨_, rfl⟩
          rw [← hQ] at HPI HR3 HG
          have hQk : Q.2 = 0 → Q.1.kind = 4 := by
            rw [hQ]
            intro h
            unfold picA at h ⊢
            dsimp only at h ⊢
            split at h
            · cases h
            · rename_i m hm
              split at h
              · cases h
              · rename_i h2; rw [if_neg h2]
          have HQK := Lib.hid hQk
          clear hR3 c2 c4 hn hgood hx hQ hpl hQk
          go_wp2_with fail
          refine (HP1.out _).mono ?_
          rintro e w2 ⟨rfl, rfl⟩
          go_wp2_with fail
          refine (HP2.out _).mono ?_
          rintro e w2 ⟨rfl, rfl⟩
          go_wp2_with fail
          refine HPI.out.mono ?_
          rintro e w2 ⟨rfl, hx2⟩
          have hb2 := HB1.out.ext hx2
          obtain ⟨⟨q0, q1, q2, q3, q4⟩, hfz, hlt2⟩ := five hb2
          have z0 := hfz 0
          have z1 := hfz 1
          have z2 := hfz 2
          have z3 := hfz 3
          have z4 := hfz 4
          have hx12 := HX1.out.trans hx2
          clear hb2 hfz p0 p1 p2 p3 p4 y0 y1 y2 y3 y4 hx2
          go_wp2_with fail
          refine bodyPost_ret (v := .tuple #[.agg #[.int .i64 4, .slice none 0 0, .slice none 0 0, .string (BA Q.1.runs), .int .i64 (Q.1.width : Nat)], .int .i64 (Q.2 : Nat)]) (by simp [results, Tryd.results21, go_sem, q0, q1, q2, q3, q4]) rfl ⟨4, _, _, _, Q.1.width, by rw [HR3.out]; rfl, ext5 hx12 hbw _ _ _ _ _, ⟨_, _, _, rfl⟩, ⟨_, _, _, rfl⟩, fun h => ?_⟩
          rw [HR3.out] at h ⊢
          have hk4 := HQK.out h
          exact ⟨hk4.symm, rfl, rfl, fun h => absurd h (by rw [hk4]; decide), fun h => absurd h (by rw [hk4]; decide), fun h => absurd h (by rw [hk4]; decide), fun _ _ => rfl⟩
        | false =>
          rw [if_neg (by rw [c4]; decide)] at hR3
          rw [c4] at HP2
          have HR3 := Lib.hid hR3
          clear hR3 c2 c4 hpl hn
          go_wp2_with fail
          refine (HP1.out _).mono ?_
          rintro e w2 ⟨rfl, rfl⟩
          go_wp2_with fail
          refine (HP2.out _).mono ?_
          rintro e w2 ⟨rfl, rfl⟩
          go_wp2_with fail
          refine bodyPost_ret (v := .tuple #[.agg #[.int .i64 2, .slice A1 n c1, .slice none 0 0, .string ⟨#[]⟩, .int .i64 0], .int .i64 0]) (by simp [results, Tryd.results21, go_sem, p0, p1, p2, p3, p4]) rfl ⟨2, _, _, _, 0, by rw [HR3.out]; rfl, ext5 HX1.out hbw _ _ _ _ _, ⟨_, _, _, rfl⟩, ⟨_, _, _, rfl⟩, fun _ => ?_⟩
          rw [HR3.out]
          refine ⟨rfl, rfl, rfl, fun h => absurd (show (2 : Nat) = 1 from h) (by decide), fun _ => ?_, fun h => absurd (show (2 : Nat) = 3 from h) (by decide), fun _ h => absurd rfl h⟩
          show World.ownsRow _ _ _ _ _ _ _
          rw [← HN.out]
          exact own_base (own_keep HO.out (keep5 _ _ _ _ _ _ _) (own_type HO.out HTY.out)) HX0.out.size
end Go.Proofs.YtapjhnlnfliljaaDoor
