/- The contract of the reference's Expand (layer 52). -/
import Derived.Test.YthanegmaipckdaaDoorMem
import Derived.Test.YthanegmaipckdaaDoorProg
import Derived.Test.YthanegmaipckdaaDoorBA
import Derived.Test.YthanegmaipckdaaDoorBitParse2
import Derived.Lib.Hide
import Derived.WalkSpells
import Derived.Deep.QuietTactic
import Derived.BigQuiet
import Derived.IntWalk
namespace Go.Proofs.YthanegmaipckdaaDoor
open Go.RowKit
open Go.Lib Dec
set_option linter.unusedVariables false

theorem Tryd.infoStr : (Tryd.prog.info? 9).map (fun i => (i.zero, i.size, i.bytes)) = some (some (.string ByteArray.empty), 1, 16) := by kernel_rfl

/-- rows and an error come back -/
def RowsPost (w : World) (rows : List Bytes) (E : Int) (e : Ending) (w' : World) : Prop :=
  ∃ v, e = .returned (.tuple #[v, .int .i64 E]) ∧ w'.ownsRow w.heap.size 9 1 v rows.length (rows.map fun r => .string (BA r)) ∧ Ext w w'
theorem rows_err (w w' : World) (E F : Int) (h : E = F) (hx : Ext w w') : RowsPost w [] E (.returned (.tuple #[.slice none 0 0, .int .i64 F])) w' := ⟨_, by rw [h], World.ownsRow_nil _ _ _ _, hx⟩

theorem get_str (s : ByteArray) (j : Nat) (h : j < s.size) : s.data.toList[j]? = some s[j] := List.getElem?_eq_getElem (show j < s.data.toList.length from h)
theorem u8_ne {a b : UInt8} (h : a ≠ b) : ((a.toNat : Int) == (b.toNat : Int)) = false := by
  rw [beq_eq_false_iff_ne]; intro e; exact h (UInt8.toNat_inj.1 (by omega))
theorem u8_ne' {a : UInt8} {n : Nat} (h : a.toNat ≠ n) : ((a.toNat : Int) == (n : Int)) = false := by
  rw [beq_eq_false_iff_ne]; omega
theorem px_cases (c : UInt8) : isPx c = decide (c.toNat = 46 ∨ c.toNat = 35) := u8_all' (p := fun c => isPx c = decide (c.toNat = 46 ∨ c.toNat = 35)) (by decide +kernel) c
where
  u8_all' {p : UInt8 → Prop} (h : ∀ n : Fin 256, p (UInt8.ofNat n.val)) (c : UInt8) : p c := by
    have := h ⟨c.toNat, c.toNat_lt⟩
    simpa using this

set_option maxHeartbeats 8000000 in
set_option maxRecDepth 100000 in
theorem rExpand_any (s : ByteArray) (width : Int) (w : World) (hs : s.size ≤ 1000000) :
    Calls Tryd.prog 12 #[.string s, .int .i64 width] w (RowsPost w (expA s.data.toList width).1 (expA s.data.toList width).2) := by
  obtain ⟨i0, hi, hz0, hz1, hz2⟩ := info_parts Tryd.infoStr
  have hsl : s.data.toList.length = s.size := rfl
  by_cases hw : width < 1 ∨ 200 < width
  · have hR : expA s.data.toList width = ([], 2) := by unfold expA; rw [if_pos hw]
    rw [hR]
    clear hR
    rcases hw with h | h
    · go_enter Tryd.func12, Tryd.ntmps12
      go_wp2_with fail
      refine bodyPost_ret (v := .tuple #[.slice none 0 0, .int .i64 2]) (by simp [results, Tryd.results12, go_sem]) rfl (rows_err _ _ _ _ rfl (Ext.refl _))
    · have h1 : ¬ (width < 1) := by omega
      go_enter Tryd.func12, Tryd.ntmps12
      go_wp2_with fail
      refine bodyPost_ret (v := .tuple #[.slice none 0 0, .int .i64 2]) (by simp [results, Tryd.results12, go_sem]) rfl (rows_err _ _ _ _ rfl (Ext.refl _))
  obtain ⟨wd, rfl⟩ := Int.eq_ofNat_of_zero_le (show 0 ≤ width by omega)
  have hw1 : 1 ≤ wd := by omega
  have hw2 : wd ≤ 200 := by omega
  obtain ⟨RR, hRR⟩ : ∃ RR, RR = expA s.data.toList wd := ⟨_, rfl⟩
  rw [← hRR]
  unfold expA at hRR
  rw [if_neg hw, Int.toNat_natCast] at hRR
  have HRR := Lib.hid hRR
  have hst := Lib.hid (ReadS.start s.data.toList)
  have HSL := Lib.hid hsl
  have hfail : Hid (parseR 0 s.data.toList = none → RR = ([], 3)) := by
    intro h; rw [HRR.out, h]
  clear hRR hsl hw
  go_enter Tryd.func12, Tryd.ntmps12
  go_wp2_with fail
  go_loop [6, 7, 8] (fun tv av lv => ∃ (pre : List (Nat × UInt8)) (i : Nat) (last : UInt8), i ≤ s.size ∧ av = .int .i64 i ∧ lv = .int .u8 (last.toNat : Int) ∧ tv = .int .i64 (totR pre : Int) ∧ totR pre ≤ 100000 * i ∧ ReadS s.data.toList pre i last) (fun _ av _ => s.size - (intOf av).toNat)
  case atStart => exact ⟨[], 0, 0, Nat.zero_le _, rfl, rfl, rfl, Nat.le_refl _, hst.out⟩
  case round =>
    obtain ⟨pre, i, last, hib, rfl, rfl, rfl, htot, hrd⟩ := hrel
    have HRD := Lib.hid hrd
    clear hrd
    generalize htp : totR pre = tp at *
    have HTP := Lib.hid htp
    clear htp
    by_cases hlt : i < s.size
    · have hstop : Hid (headR (s.data.toList.drop i) = none → RR = ([], 3)) := fun h => hfail.out (HRD.out.stop (by rw [HSL.out]; exact hlt) h)
      have hds := Lib.hid (DigS.zero s.data.toList i)
      go_wp2_with fail
      go_loop [7, 9, 10] (fun av nv dv => ∃ j d v : Nat, av = .int .i64 j ∧ nv = .int .i64 v ∧ dv = .int .i64 d ∧ i + d ≤ j ∧ j ≤ i + d ∧ d ≤ 5 ∧ j ≤ s.size ∧ v ≤ 99999 ∧ DigS s.data.toList i d v) (fun av _ _ => s.size - (intOf av).toNat)
      case atStart => exact ⟨i, 0, 0, rfl, rfl, rfl, Nat.le_refl _, Nat.le_refl _, by omega, by omega, by omega, hds.out⟩
      case round =>
        obtain ⟨j, d, v, rfl, rfl, rfl, hj1, hj2, hd5, hjs, hv, hdig⟩ := hrel
        have HD := Lib.hid hdig
        clear hdig
        by_cases hjl : j < s.size
        · have hget := Lib.hid (get_str s j hjl)
          cases hdg : dgB s[j] with
          | true =>
            have hdd := (dgB_iff s[j]).1 hdg
            have hb1 := hdd.1
            have hb2 := hdd.2
            clear hdd
            by_cases hz : d = 0 ∧ s[j] = 48
            · obtain ⟨rfl, hc⟩ := hz
              have hfin : Hid (RR = ([], 3)) := by
                refine hstop.out ?_
                obtain rfl : j = i := by omega
                exact head_zero (by rw [hget.out, hc])
              have hc' : (((s[j]).toNat : Nat) : Int) = 48 := by rw [hc]; rfl
              clear hc hdg
              go_wp2_with fail
              refine bodyPost_ret (v := .tuple #[.slice none 0 0, .int .i64 3]) (by simp [results, Tryd.results12, go_sem]) rfl ?_
              rw [hfin.out]
              exact rows_err _ _ _ _ rfl (Ext.refl _)
            · by_cases h5 : d = 5
              · subst h5
                have hfin : Hid (RR = ([], 3)) := hstop.out (head_long HD.out (by omega) hget.out hdg)
                clear hdg hz
                go_wp2_with fail
                refine bodyPost_ret (v := .tuple #[.slice none 0 0, .int .i64 3]) (by simp [results, Tryd.results12, go_sem]) rfl ?_
                rw [hfin.out]
                exact rows_err _ _ _ _ rfl (Ext.refl _)
              · have hnx := Lib.hid (HD.out.step (show j = i + d by omega) hget.out hdg (fun h0 hc => hz ⟨h0, hc⟩))
                have hv2 := hnx.out.bound (by omega)
                have hval : Hid (((10 * v + ((s[j]).toNat - 48) : Nat) : Int) = 10 * (v : Int) + ((s[j]).toNat : Int) - 48) := by show _ = _; omega
                have h5' : ((d : Int) == 5) = false := by rw [beq_eq_false_iff_ne]; omega
                by_cases h0 : d = 0
                · subst h0
                  have h48 : ((((s[j]).toNat : Nat) : Int) == 48) = false := by
                    rw [beq_eq_false_iff_ne]
                    intro e
                    exact hz ⟨rfl, UInt8.toNat_inj.1 (by have : (48 : UInt8).toNat = 48 := rfl; omega)⟩
                  clear hz hdg
                  go_wp2_with fail
                  go_round
                  case rel => exact ⟨j + 1, 1, 10 * v + ((s[j]).toNat - 48), by go_num, by rw [hval.out], rfl, by omega, by omega, by omega, by omega, hv2, hnx.out⟩
                  case measure => simp [intOf]; omega
                · have h0' : ((d : Int) == 0) = false := by rw [beq_eq_false_iff_ne]; omega
                  clear hz hdg
                  go_wp2_with fail
                  go_round
                  case rel => exact ⟨j + 1, d + 1, 10 * v + ((s[j]).toNat - 48), by go_num, by rw [hval.out], by go_num, by omega, by omega, by omega, by omega, hv2, hnx.out⟩
                  case measure => simp [intOf]; omega
          | false =>
            have hnd : (s[j]).toNat < 48 ∨ 57 < (s[j]).toNat := by
              rcases Nat.lt_or_ge (s[j]).toNat 48 with h | h
              · exact Or.inl h
              · rcases Nat.lt_or_ge 57 (s[j]).toNat with h' | h'
                · exact Or.inr h'
                · rw [(dgB_iff s[j]).2 ⟨h, h'⟩] at hdg; cases hdg
            have hpxc := px_cases s[j]
            by_cases h0 : d = 0
            · subst h0
              have hfin : Hid (RR = ([], 3)) := hstop.out (head_none0 HD.out (by omega) hget.out hdg)
              clear hdg hpxc
              rcases hnd with hnd | hnd
              all_goals
                go_wp2_with fail
                refine bodyPost_ret (v := .tuple #[.slice none 0 0, .int .i64 3]) (by simp [results, Tryd.results12, go_sem]) rfl ?_
                rw [hfin.out]
                exact rows_err _ _ _ _ rfl (Ext.refl _)
            · have h0' : ((d : Int) == 0) = false := by rw [beq_eq_false_iff_ne]; omega
              cases hpx : isPx s[j] with
              | false =>
                have hfin : Hid (RR = ([], 3)) := hstop.out (head_px HD.out (by omega) hget.out hdg hpx)
                rw [hpx] at hpxc
                have hn := of_decide_eq_false hpxc.symm
                have h46 : ((((s[j]).toNat : Nat) : Int) != 46) = true := by rw [bne_iff_ne]; omega
                have h35 : ((((s[j]).toNat : Nat) : Int) != 35) = true := by rw [bne_iff_ne]; omega
                clear hdg hpxc hpx hn
                rcases hnd with hnd | hnd
                all_goals
                  go_wp2_with fail
                  refine bodyPost_ret (v := .tuple #[.slice none 0 0, .int .i64 3]) (by simp [results, Tryd.results12, go_sem]) rfl ?_
                  rw [hfin.out]
                  exact rows_err _ _ _ _ rfl (Ext.refl _)
              | true =>
                have hyes := Lib.hid (head_yes HD.out (show j = i + d by omega) hget.out hdg hpx (by omega) hd5)
                rw [hpx] at hpxc
                have hp2 := of_decide_eq_true hpxc.symm
                have hnd' : (s[j]).toNat < 48 := by omega
                have h46 : ((((s[j]).toNat : Nat) : Int) != 46 && (((s[j]).toNat : Nat) : Int) != 35) = false := by
                  rw [Bool.and_eq_false_iff, bne_eq_false_iff_eq, bne_eq_false_iff_eq]; omega
                clear hdg hpxc hpx hnd
                by_cases hla : s[j] = last
                · have hfin : Hid (RR = ([], 3)) := hfail.out (HRD.out.same (by rw [hla] at hyes; exact hyes.out))
                  have hle : ((((s[j]).toNat : Nat) : Int) == ((last.toNat : Nat) : Int)) = true := by rw [hla]; simp
                  clear hla
                  rcases hp2 with hp2 | hp2
                  · have hp3 : ((((s[j]).toNat : Nat) : Int) != 46) = false := by rw [bne_eq_false_iff_eq]; omega
                    clear hp2
                    go_wp2_with fail
                    refine bodyPost_ret (v := .tuple #[.slice none 0 0, .int .i64 3]) (by simp [results, Tryd.results12, go_sem]) rfl ?_
                    rw [hfin.out]
                    exact rows_err _ _ _ _ rfl (Ext.refl _)
                  · have hp3 : ((((s[j]).toNat : Nat) : Int) != 46) = true := by rw [bne_iff_ne]; omega
                    have hp4 : ((((s[j]).toNat : Nat) : Int) != 35) = false := by rw [bne_eq_false_iff_eq]; omega
                    clear hp2
                    go_wp2_with fail
                    refine bodyPost_ret (v := .tuple #[.slice none 0 0, .int .i64 3]) (by simp [results, Tryd.results12, go_sem]) rfl ?_
                    rw [hfin.out]
                    exact rows_err _ _ _ _ rfl (Ext.refl _)
                · have hle := u8_ne hla
                  have hnx := Lib.hid (HRD.out.next hyes.out hla)
                  have htn : Hid (((totR (pre ++ [(v, s[j])]) : Nat) : Int) = (tp : Int) + (v : Int)) := by
                    show _ = _
                    rw [totR_snoc, HTP.out]; omega
                  have htb : totR (pre ++ [(v, s[j])]) ≤ 100000 * (j + 1) := by rw [totR_snoc, HTP.out]; omega
                  clear hla
                  rcases hp2 with hp2 | hp2
                  · have hp3 : ((((s[j]).toNat : Nat) : Int) != 46) = false := by rw [bne_eq_false_iff_eq]; omega
                    clear hp2
                    go_wp2_with fail
                    go_round
                    case rel => exact ⟨pre ++ [(v, s[j])], j + 1, s[j], by omega, by go_num, rfl, by rw [htn.out], htb, hnx.out⟩
                    case measure => simp [intOf]; omega
                  · have hp3 : ((((s[j]).toNat : Nat) : Int) != 46) = true := by rw [bne_iff_ne]; omega
                    have hp4 : ((((s[j]).toNat : Nat) : Int) != 35) = false := by rw [bne_eq_false_iff_eq]; omega
                    clear hp2
                    go_wp2_with fail
                    go_round
                    case rel => exact ⟨pre ++ [(v, s[j])], j + 1, s[j], by omega, by go_num, rfl, by rw [htn.out], htb, hnx.out⟩
                    case measure => simp [intOf]; omega
        · obtain rfl : j = s.size := by omega
          have hfin : Hid (RR = ([], 3)) := hstop.out (head_end HD.out (show s.size = i + d by omega) (by rw [HSL.out]; exact Nat.le_refl _))
          by_cases h0 : d = 0
          · subst h0
            omega
          · have h0' : ((d : Int) == 0) = false := by rw [beq_eq_false_iff_ne]; omega
            go_wp2_with fail
            refine bodyPost_ret (v := .tuple #[.slice none 0 0, .int .i64 3]) (by simp [results, Tryd.results12, go_sem]) rfl ?_
            rw [hfin.out]
            exact rows_err _ _ _ _ rfl (Ext.refl _)
    · obtain rfl : i = s.size := by omega
      have hp := HRD.out.done (by rw [HSL.out]; exact Nat.le_refl _)
      obtain ⟨hLe, hgood⟩ := parse_good _ 0 _ pre (Nat.le_refl _) hp
      have hmem := hgood.mem
      have hRv : RR = (if tp = 0 ∨ tp % wd ≠ 0 then ([], 4) else if 200 < tp / wd then ([], 6) else (chunkB wd (cellsR pre), 0)) := by rw [HRR.out, hp, ← HTP.out]
      have HLE := Lib.hid hLe
      have HM := Lib.hid hmem
      clear hp hLe hgood hmem hfail HRD
      by_cases h0 : tp = 0
      · have hfin : Hid (RR = ([], 4)) := by show _ = _; rw [hRv, if_pos (Or.inl h0)]
        subst h0
        clear hRv
        go_wp2_with fail
        refine bodyPost_ret (v := .tuple #[.slice none 0 0, .int .i64 4]) (by simp [results, Tryd.results12, go_sem]) rfl ?_
        rw [hfin.out]
        exact rows_err _ _ _ _ rfl (Ext.refl _)
      have h0' : ((tp : Int) == 0) = false := by rw [beq_eq_false_iff_ne]; omega
      have hwq : wrap64 ((tp : Int) / (wd : Int)) = (tp : Int) / (wd : Int) := IntWalk.wrap64_in _ (by
        have h1 : 0 ≤ (tp : Int) / (wd : Int) := Int.ediv_nonneg (by omega) (by omega)
        have h2 : (tp : Int) / (wd : Int) ≤ (tp : Int) := Int.ediv_le_self _ (by omega)
        omega)
      by_cases hm : tp % wd = 0
      · have hm' : ((tp : Int) % (wd : Int) != 0) = false := by rw [bne_eq_false_iff_eq, ← Int.natCast_emod, hm]; rfl
        have hm2 : (tp : Int) % (wd : Int) = 0 := by rw [← Int.natCast_emod, hm]; rfl
        by_cases hq : 200 < tp / wd
        · have hfin : Hid (RR = ([], 6)) := by show _ = _; rw [hRv, if_neg (by omega), if_pos hq]
          have hq' : (200 : Int) < (tp : Int) / (wd : Int) := by rw [← Int.natCast_ediv]; omega
          clear hRv hm hq
          go_wp2_with fail
          refine bodyPost_ret (v := .tuple #[.slice none 0 0, .int .i64 6]) (by simp [results, Tryd.results12, go_sem]) rfl ?_
          rw [hfin.out]
          exact rows_err _ _ _ _ rfl (Ext.refl _)
        · have hfin : Hid (RR = (chunkB wd (cellsR pre), 0)) := by show _ = _; rw [hRv, if_neg (by omega), if_neg hq]
          have hq' : ¬ (200 : Int) < (tp : Int) / (wd : Int) := by rw [← Int.natCast_ediv]; omega
          have hqb : Hid (totR pre / wd ≤ 200) := by show _ ≤ _; rw [HTP.out]; omega
          have hst2 : Hid (pre = [] ++ pre ∧ s.data.toList.drop 0 = encB pre) := ⟨rfl, HLE.out⟩
          have hcz : Hid (restB wd (cellsR []) = [] ∧ chunkB wd (cellsR []) = []) := by
            constructor
            · exact restB_nil wd _ (by simp [cellsR])
            · simp [chunkB, cellsR]
          clear hRv hm hq
          go_wp2_with fail
          go_loopw [7, 11, 12] (fun av ov rv wr => ∃ (pa pb : List (Nat × UInt8)) (i : Nat), i ≤ s.size ∧ av = .int .i64 i ∧ rv = .string (BA (restB wd (cellsR pa))) ∧ (pre = pa ++ pb ∧ s.data.toList.drop i = encB pb) ∧ wr.ownsRow w.heap.size 9 1 ov (chunkB wd (cellsR pa)).length ((chunkB wd (cellsR pa)).map fun r => .string (BA r)) ∧ Ext w wr) (fun av _ _ _ => s.size - (intOf av).toNat)
          case atStart =>
            refine ⟨[], pre, 0, Nat.zero_le _, rfl, by rw [hcz.out.1]; rfl, hst2.out, ?_, Ext.refl _⟩
            rw [hcz.out.2]
            exact World.ownsRow_nil _ _ _ _
          case round =>
            obtain ⟨pa, pb, i, hib, rfl, rfl, hem, hown, hx⟩ := hrel
            have HE := Lib.hid hem
            have HO := Lib.hid hown
            clear hem hown
            by_cases hlt : i < s.size
            · cases pb with
              | nil =>
                exfalso
                have := congrArg List.length HE.out.2
                rw [List.length_drop, HSL.out] at this
                simp [encB] at this
                omega
              | cons nc pb =>
                obtain ⟨n, c⟩ := nc
                have hmn := HM.out (n, c) (by rw [HE.out.1]; simp)
                simp only at hmn
                obtain ⟨hn1, hn2, hpxc⟩ := hmn
                have hLd := Lib.hid (enc_drop HE.out.2)
                have hpre := Lib.hid HE.out.1
                obtain ⟨K, hK⟩ : ∃ K, K = (decDigits n).length := ⟨_, rfl⟩
                have hK5 : K ≤ 5 := by rw [hK]; exact dec_len (n := n) (k := 4) (by omega)
                have HK := Lib.hid hK
                have hlst := enc_last hLd.out (show i + K = i + (decDigits n).length by rw [hK])
                have hKs : i + K < s.size := (List.getElem?_eq_some_iff.1 hlst.1).1
                have hcc := px_cases c
                rw [hpxc] at hcc
                have hc48 := of_decide_eq_true hcc.symm
                have hc47 : c.toNat < 48 := by omega
                have HLST := Lib.hid hlst
                clear hK hlst hpxc hcc hc48 HE
                go_wp2_with fail
                go_loop [7, 13] (fun av nv => ∃ j d v : Nat, av = .int .i64 j ∧ nv = .int .i64 v ∧ i + d ≤ j ∧ j ≤ i + d ∧ d ≤ K ∧ v ≤ 99999 ∧ v = valD ((decDigits n).take d)) (fun av _ => s.size - (intOf av).toNat)
                case atStart => exact ⟨i, 0, 0, rfl, rfl, Nat.le_refl _, Nat.le_refl _, Nat.zero_le _, by omega, rfl⟩
                case round =>
                  obtain ⟨j, d, v, rfl, rfl, hj1, hj2, hdK, hv, hval⟩ := hrel
                  have HV := Lib.hid hval
                  clear hval
                  by_cases hd : d < K
                  · obtain ⟨x, hx1, hx2, hx3⟩ := enc_digit hLd.out (show j = i + d by omega) (by rw [← HK.out]; exact hd)
                    obtain ⟨hjl, hsx⟩ : ∃ h : j < s.size, s[j] = x := List.getElem?_eq_some_iff.1 hx1
                    subst hsx
                    have hb := (dgB_iff s[j]).1 hx2
                    have hb1 := hb.1
                    have hb2 := hb.2
                    have hnv : Hid (((valD ((decDigits n).take (d + 1)) : Nat) : Int) = 10 * (v : Int) + ((s[j]).toNat : Int) - 48) := by
                      show _ = _; rw [hx3, ← HV.out]; omega
                    have hvb := val_take_le n (d + 1) hn2
                    clear hx1 hx2 hx3 hb
                    go_wp2_with fail
                    go_round
                    case rel => exact ⟨j + 1, d + 1, valD ((decDigits n).take (d + 1)), by go_num, by rw [hnv.out], by omega, by omega, by omega, hvb, rfl⟩
                    case measure => simp [intOf]; omega
                  · obtain rfl : d = K := by omega
                    obtain rfl : j = i + d := by omega
                    obtain rfl : v = n := by rw [HV.out, HK.out, List.take_length]; exact val_dec n
                    obtain ⟨J, hJ⟩ : ∃ J, J = i + d := ⟨_, rfl⟩
                    rw [← hJ] at HLST hKs ⊢
                    obtain ⟨hL1, hL2⟩ := HLST.out
                    obtain ⟨hJl, hsx⟩ : ∃ h : J < s.size, s[J] = c := List.getElem?_eq_some_iff.1 hL1
                    subst hsx
                    have hL2 := Lib.hid hL2
                    have hJi : i ≤ J := by omega
                    have hst3 : Hid (cellsR pa ++ List.replicate 0 s[J] = cellsR pa) := by show _ = _; simp
                    have hext : Hid (s.extract J (J + 1) = BA [s[J]]) := by
                      show _ = _
                      exact bytes_inj (by rw [BA_data]; exact ext_oneB s J hJl)
                    have hxz : (s.extract J (J + 1)).size = 1 := by rw [hext.out]; rfl
                    clear hL1 hJ HLST hj1 hj2 hdK HV
                    go_wp2_with fail
                    go_loopw [11, 12, 14] (fun ov rv mv wr => ∃ m : Nat, m ≤ v ∧ mv = .int .i64 m ∧ rv = .string (BA (restB wd (cellsR pa ++ List.replicate m s[J]))) ∧ wr.ownsRow w.heap.size 9 1 ov (chunkB wd (cellsR pa ++ List.replicate m s[J])).length ((chunkB wd (cellsR pa ++ List.replicate m s[J])).map fun r => .string (BA r)) ∧ Ext w wr) (fun _ _ mv _ => v - (intOf mv).toNat)
                    case atStart =>
                      refine ⟨0, Nat.zero_le _, rfl, by rw [hst3.out], ?_, hx⟩
                      rw [hst3.out]
                      exact HO.out
                    case round =>
                      obtain ⟨m, hm, rfl, rfl, hown, hx⟩ := hrel
                      have HO := Lib.hid hown
                      clear hown
                      by_cases hmn : m < v
                      · have hnx : Hid (cellsR pa ++ List.replicate (m + 1) s[J] = (cellsR pa ++ List.replicate m s[J]) ++ [s[J]]) := by
                          show _ = _
                          rw [List.replicate_succ', List.append_assoc]
                        have hcl := chunk_len_le wd pre pa pb m v s[J] hpre.out hm hqb.out
                        have hrl := restB_length wd (cellsR pa ++ List.replicate m s[J])
                        have hrm := Nat.mod_lt (cellsR pa ++ List.replicate m s[J]).length (show 0 < wd by omega)
                        rw [← hrl] at hrm
                        clear hrl
                        have hfull := chunk_full wd (cellsR pa ++ List.replicate m s[J]) s[J] hw1
                        have hpart := chunk_part wd (cellsR pa ++ List.replicate m s[J]) s[J] hw1
                        rw [← hnx.out] at hfull hpart
                        generalize hAA : cellsR pa ++ List.replicate m s[J] = AA at *
                        have HF := Lib.hid hfull
                        have HP := Lib.hid hpart
                        have hrow : Hid (BA (restB wd AA) ++ s.extract J (J + 1) = BA (restB wd AA ++ [s[J]])) := by
                          show _ = _
                          rw [hext.out, BA_append]
                        have hrs : (BA (restB wd AA)).size = (restB wd AA).length := BA_size _
                        by_cases hf : (restB wd AA).length + 1 = wd
                        · have hf' : (((BA (restB wd AA)).size : Int) + 1 == (wd : Int)) = true := by rw [beq_iff_eq, hrs]; omega
                          obtain ⟨hc1, hc2⟩ := HF.out hf
                          have HC1 := Lib.hid hc1
                          have HC2 := Lib.hid hc2
                          have hrb : (BA (restB wd AA)).size ≤ 200 := by rw [hrs]; omega
                          clear hf hrm hfull hpart hAA hc1 hc2 hrs HF HP hnx
                          generalize chunkB wd AA = CH at *
                          generalize restB wd AA = RS at *
                          generalize BA RS = BR at *
                          go_wp2_with (at_builtin; refine wpList_append_own _ rfl (.tmp 152) (.tmp 154) _ rfl w.heap.size 9 i0 _ 1 16 Tryd.underlying23 hi hz0 hz1 hz2 rfl (by omega) _ _ _ rfl (HO.out.alloc _) ⟨wr.heap.size, 0, none⟩ 1 1 [.string (BR ++ s.extract J (J + 1))] rfl rfl ?c1 ?c2 ?c3 ?c4 ?c5 ?_)
                          case c1 =>
                            intro j u hu
                            match j, hu with
                            | 0, hu => simp at hu; subst hu; go_cell
                          case c2 =>
                            intro u hu
                            simp at hu
                            subst hu; rfl
                          case c3 => unfold maxLen; omega
                          case c4 => omega
                          case c5 => (have hc5 := hx.size; try simp at hc5); simp; omega
                          intro v' w2 hown2 hgr _
                          have hx3 := (hx.alloc (.cells #[.string (BR ++ s.extract J (J + 1))] 9)).grown hgr (fun k hk => (HO.out.lt k hk).1)
                          have HO2 := Lib.hid hown2
                          have HG := Lib.hid hgr
                          clear hown2 hgr
                          go_wp2_with fail
                          go_roundw
                          case rel =>
                            refine ⟨m + 1, by omega, by go_num, by rw [HC2.out]; rfl, ?_, hx3⟩
                            rw [HC1.out, List.length_append, List.map_append, List.map_cons, List.map_nil, ← hrow.out]
                            exact HO2.out
                          case measure => simp [intOf]; omega
                        · have hf' : (((BA (restB wd AA)).size : Int) + 1 == (wd : Int)) = false := by rw [beq_eq_false_iff_ne, hrs]; omega
                          obtain ⟨hc1, hc2⟩ := HP.out hf
                          have HC1 := Lib.hid hc1
                          have HC2 := Lib.hid hc2
                          have hrb : (BA (restB wd AA)).size ≤ 200 := by rw [hrs]; omega
                          clear hf hrm hfull hpart hAA hc1 hc2 hrs HF HP hnx
                          generalize chunkB wd AA = CH at *
                          generalize restB wd AA = RS at *
                          generalize BA RS = BR at *
                          go_wp2_with fail
                          go_roundw
                          case rel =>
                            refine ⟨m + 1, by omega, by go_num, by rw [HC2.out, ← hrow.out], ?_, hx⟩
                            rw [HC1.out]
                            exact HO.out
                          case measure => simp [intOf]; omega
                      · obtain rfl : m = v := by omega
                        have hsn := cellsR_snoc pa m s[J]
                        rw [← hsn] at HO ⊢
                        have hem2 : Hid (pre = (pa ++ [(m, s[J])]) ++ pb) := by show _ = _; rw [hpre.out]; simp
                        clear hsn
                        go_wp2_with fail
                        go_roundw
                        case rel => exact ⟨pa ++ [(m, s[J])], pb, J + 1, by omega, by go_num, rfl, ⟨hem2.out, hL2.out⟩, HO.out, hx⟩
                        case measure => simp [intOf]; omega
            · obtain rfl : i = s.size := by omega
              have hpb : pb = [] := by
                have := HE.out.2
                rw [List.drop_of_length_le (by rw [HSL.out]; exact Nat.le_refl _)] at this
                cases pb with
                | nil => rfl
                | cons x r =>
                  rw [encB_cons] at this
                  simp at this
              have hpp : Hid (RR = (chunkB wd (cellsR pa), 0)) := by
                show _ = _
                rw [hfin.out, HE.out.1, hpb, List.append_nil]
              clear hpb
              go_wp2_with fail
              refine bodyPost_ret (v := .tuple #[u11, .int .i64 0]) (by simp [results, Tryd.results12, go_sem]) rfl ?_
              rw [hpp.out]
              exact ⟨_, rfl, HO.out, hx⟩
      · have hm' : ((tp : Int) % (wd : Int) != 0) = true := by rw [bne_iff_ne, ← Int.natCast_emod]; omega
        have hm2 : ¬ (tp : Int) % (wd : Int) = 0 := by rw [← Int.natCast_emod]; omega
        have hfin : Hid (RR = ([], 4)) := by show _ = _; rw [hRv, if_pos (Or.inr hm)]
        clear hRv hm
        go_wp2_with fail
        refine bodyPost_ret (v := .tuple #[.slice none 0 0, .int .i64 4]) (by simp [results, Tryd.results12, go_sem]) rfl ?_
        rw [hfin.out]
        exact rows_err _ _ _ _ rfl (Ext.refl _)
end Go.Proofs.YthanegmaipckdaaDoor
