/- The contract of the assembler's check. -/
import Derived.Test.YtimegcnpembhkaaDoorAsmToks
import Derived.Test.YtimegcnpembhkaaDoorAsmMap
namespace Go.Proofs.YtimegcnpembhkaaDoor
open Go.RowKit
open Go.Lib hiding intOf
set_option linter.unusedVariables false

/-- the first invalid token: its line and the error -/
def chkGo (defd : Bytes → Bool) : (Bytes → Bool) → List Tok → Int × Int
  | _, [] => (0, 0)
  | met, t :: r => match defN t.1 with
    | some n => if met n = true then ((t.2 : Int), 8) else chkGo defd (setB met n true) r
    | none => match refN t.1 with
      | some n => if defd n = true then chkGo defd met r else ((t.2 : Int), 7)
      | none => if codeB t.1 = true then chkGo defd met r else ((t.2 : Int), 3)
def defd (l : List Tok) (n : Bytes) : Bool := l.any fun t => decide (defN t.1 = some n)
def chkA (l : List Tok) : Int × Int := chkGo (defd l) (fun _ => false) l

theorem defd_snoc_none {l : List Tok} {t : Tok} (h : defN t.1 = none) : defd (l ++ [t]) = defd l := by
  funext n; simp [defd, h]
theorem defd_snoc_some {l : List Tok} {t : Tok} {m : Bytes} (h : defN t.1 = some m) : defd (l ++ [t]) = setB (defd l) m true := by
  funext n
  unfold setB
  by_cases hn : n = m
  · subst hn; simp [defd, h]
  · have : ¬ m = n := fun e => hn e.symm
    simp [defd, h, hn, this]

/-- the tokens fit -/
def Fits (l : List Tok) : Prop := ∀ t ∈ l, t.1.length ≤ 1000000000 ∧ t.2 ≤ 1000000000

set_option maxHeartbeats 2000000 in
set_option maxRecDepth 100000 in
theorem check_any (A : Option Addr) (n cap : Nat) (l : List Tok) (w : World) (hl : HLst w A n cap (l.map tokH)) (hf : Fits l) (hn : n ≤ 1000000000) :
    Calls Tryd.prog 28 #[.slice A n cap] w fun e w' => e = .returned (.tuple #[.int .i64 (chkA l).1, .int .i64 (chkA l).2]) ∧ Ext w w' := by
  have hlen : n = l.length := by simpa using hl.len
  have hroom := hl.room
  have hmax := hl.max
  unfold maxLen at hmax
  have HL := Lib.hid hlen
  have HF := Lib.hid hf
  have HH := Lib.hid hl
  have hm0 := Lib.hid (BMap.fresh w)
  clear hlen hf hl
  have hmm := @run_makeMap Tryd.prog
  go_enter Tryd.func28, Tryd.ntmps28
  go_wp2_with fail
  go_loopw [6, 7, 8, 19] (fun p nm ok i wr => ∃ k : Nat, k ≤ n ∧ i = .int .i64 k ∧ BMap wr w.heap.size k (defd (l.take k)) ∧ Ext w wr) (fun _ _ _ i _ => n - (intOf i).toNat)
  case atStart => exact ⟨0, Nat.zero_le _, rfl, hm0.out, (Ext.refl w).alloc _⟩
  case round =>
    obtain ⟨k, hk, rfl, hm, hx⟩ := hrel
    have HM := Lib.hid hm
    clear hm
    by_cases hlt : k < n
    · obtain ⟨b, off, rfl, hc⟩ := HH.out.at_ (by omega)
      have hkl : k < l.length := by have := HL.out; omega
      have hc1 := hx.cell (hc k (by rw [List.length_map]; exact hkl)).1
      have hc2 := hx.cell (hc k (by rw [List.length_map]; exact hkl)).2
      rw [List.getElem_map] at hc1 hc2
      have hts := HF.out l[k] (List.getElem_mem hkl)
      have htake : Hid (l.take (k + 1) = l.take k ++ [l[k]]) := by show _ = _; rw [List.take_succ_eq_append_getElem hkl]
      generalize l[k] = t at *
      unfold tokH at hc1 hc2
      simp only at hc1 hc2
      cases hd : defN t.1 with
      | none =>
        have hcl := fun W => def_none (BA t.1) (.int .i64 (t.2 : Int)) W (by rw [BA_size]; unfold maxLen; omega) hd
        have hnx : Hid (defd (l.take (k + 1)) = defd (l.take k)) := by show _ = _; rw [htake.out, defd_snoc_none hd]
        have H1 := Lib.hid hcl
        have HC := Lib.hid hc
        clear hcl hc hd htake
        generalize BA t.1 = s at *
        generalize (t.2 : Int) = z at *
        go_wp2_with fail
        refine (H1.out _).mono ?_
        rintro e w2 ⟨x, rfl, hx2⟩
        have hx3 := (hx.alloc (.cells #[.string s, .int .i64 z] 76)).trans hx2
        have HM2 := Lib.hid ((HM.out.ext ((Ext.refl wr).alloc (.cells #[.string s, .int .i64 z] 76))).ext hx2)
        go_wp2_with fail
        go_roundw
        case rel =>
          refine ⟨k + 1, by omega, by go_num, ?_, hx3⟩
          rw [hnx.out]
          obtain ⟨D, g1, g2, g3⟩ := HM2.out
          exact ⟨D, g1.mono (by omega), g2, g3⟩
        case measure => simp [intOf]; omega
      | some m =>
        have hcl := fun W => def_some (BA t.1) m (.int .i64 (t.2 : Int)) W (by rw [BA_size]; unfold maxLen; omega) hd
        have hnx : Hid (defd (l.take (k + 1)) = setB (defd (l.take k)) m true) := by show _ = _; rw [htake.out, defd_snoc_some hd]
        have hms : (BA m).size ≤ maxLen := by
          rw [BA_size]
          unfold defN at hd
          split at hd
          · simp at hd; rw [← hd, List.length_dropLast]; unfold maxLen; omega
          · cases hd
        have hmd := BA_data m
        have H1 := Lib.hid hcl
        have HC := Lib.hid hc
        have HMD := Lib.hid hmd
        clear hcl hc hd htake hmd
        generalize BA t.1 = s at *
        generalize BA m = sm at *
        generalize (t.2 : Int) = z at *
        go_wp2_with fail
        refine (H1.out _).mono ?_
        rintro e w2 ⟨rfl, hx2⟩
        have hx3 := (hx.alloc (.cells #[.string s, .int .i64 z] 76)).trans hx2
        have HM2 := Lib.hid ((HM.out.ext ((Ext.refl wr).alloc (.cells #[.string s, .int .i64 z] 76))).ext hx2)
        go_wp2_with (at_mapUpdate; refine wpList_bset rfl _ _ _ rfl w.heap.size k _ rfl HM2.out (by unfold maxLen; omega) sm hms true rfl rfl ?_)
        intro w3 hm3 hg3
        have hx4 := hx3.grown hg3 (fun k hk => by cases hk; exact Nat.le_refl _)
        have HM3 := Lib.hid hm3
        have HG := Lib.hid hg3
        clear hm3 hg3
        go_wp2_with fail
        go_roundw
        case rel =>
          refine ⟨k + 1, by omega, by go_num, ?_, hx4⟩
          rw [hnx.out]
          have := HM3.out
          rw [HMD.out] at this
          exact this
        case measure => simp [intOf]; omega
    · obtain rfl : k = n := by omega
      have HMD : Hid (BMap wr w.heap.size k (defd l)) := by
        have := HM.out
        rw [HL.out, List.take_length] at this
        rw [HL.out]; exact this
      clear HM
      have hm0 := Lib.hid (BMap.fresh wr)
      have hbl := HMD.out.lt
      have hx0 := Lib.hid hx
      go_wp2_with fail
      obtain ⟨wo, rfl⟩ : ∃ wo : World, wo = wr := ⟨_, rfl⟩
      go_loopw [11, 12, 13, 14, 15, 35] (fun p nm ok nm2 ok2 i wr => ∃ j : Nat, ∃ g : Bytes → Bool, j ≤ k ∧ i = .int .i64 j ∧ chkGo (defd l) g (l.drop j) = chkA l ∧ BMap wr w.heap.size k (defd l) ∧ BMap wr wo.heap.size j g ∧ Ext w wr) (fun _ _ _ _ _ i _ => k - (intOf i).toNat)
      case atStart => exact ⟨0, _, Nat.zero_le _, rfl, rfl, HMD.out.ext ((Ext.refl wo).alloc _), hm0.out, hx0.out.alloc _⟩
      case round =>
        obtain ⟨j, g, hj, rfl, hg, hm1, hm2, hx2⟩ := hrel
        have HM1 := Lib.hid hm1
        have HM2 := Lib.hid hm2
        have HG := Lib.hid hg
        clear hm1 hm2 hg
        by_cases hlt : j < k
        · obtain ⟨b, off, rfl, hc⟩ := HH.out.at_ (by omega)
          have hkl : j < l.length := by have := HL.out; omega
          have hc1 := hx2.cell (hc j (by rw [List.length_map]; exact hkl)).1
          have hc2 := hx2.cell (hc j (by rw [List.length_map]; exact hkl)).2
          rw [List.getElem_map] at hc1 hc2
          have hts := HF.out l[j] (List.getElem_mem hkl)
          have hdrop : Hid (l.drop j = l[j] :: l.drop (j + 1)) := List.drop_eq_getElem_cons hkl
          generalize l[j] = t at *
          unfold tokH at hc1 hc2
          simp only at hc1 hc2
          have hsz : (BA t.1).size ≤ maxLen := by rw [BA_size]; unfold maxLen; omega
          have HC := Lib.hid hc
          clear hc
          have hstep : Hid (chkA l = match defN t.1 with
              | some n => if g n = true then ((t.2 : Int), 8) else chkGo (defd l) (setB g n true) (l.drop (j + 1))
              | none => match refN t.1 with
                | some n => if defd l n = true then chkGo (defd l) g (l.drop (j + 1)) else ((t.2 : Int), 7)
                | none => if codeB t.1 = true then chkGo (defd l) g (l.drop (j + 1)) else ((t.2 : Int), 3)) := by
            show _ = _
            rw [← HG.out, hdrop.out]; rfl
          clear hdrop
          cases hd : defN t.1 with
          | some m =>
            have hcl := fun W => def_some (BA t.1) m (.int .i64 (t.2 : Int)) W hsz hd
            have hms : (BA m).size ≤ maxLen := by
              rw [BA_size]
              unfold defN at hd
              split at hd
              · simp at hd; rw [← hd, List.length_dropLast]; unfold maxLen; omega
              · cases hd
            have hst : Hid (chkA l = if g m = true then ((t.2 : Int), 8) else chkGo (defd l) (setB g m true) (l.drop (j + 1))) := by
              show _ = _
              rw [hstep.out, hd]
            have HMD2 := Lib.hid (BA_data m)
            have H1 := Lib.hid hcl
            clear hcl hd hstep
            generalize BA t.1 = s at *
            generalize (t.2 : Int) = z at *
            cases hgm : g m with
            | true =>
              have hfin : Hid (chkA l = (z, 8)) := by show _ = _; rw [hst.out, if_pos hgm]
              have HGM := Lib.hid hgm
              clear hgm hst
              go_wp2_with fail
              refine (H1.out _).mono ?_
              rintro e w2 ⟨rfl, hx3⟩
              have hx4 := (hx2.alloc (.cells #[.string s, .int .i64 z] 76)).trans hx3
              have HB := Lib.hid ((HM2.out.ext ((Ext.refl wr).alloc (.cells #[.string s, .int .i64 z] 76))).ext hx3)
              have hlk := HB.out.look (BA m) hms
              rw [HMD2.out, HGM.out] at hlk
              have hcz : w2.cell? ⟨wr.heap.size, 1, none⟩ = some (.int .i64 z) := hx3.cell (by go_cell)
              go_wp2_with fail
              go_ret2
              exact ⟨by rw [hfin.out]; rfl, hx4⟩
            | false =>
              have hfin : Hid (chkGo (defd l) (setB g m true) (l.drop (j + 1)) = chkA l) := by show _ = _; rw [hst.out, if_neg (by rw [hgm]; decide)]
              have HGM := Lib.hid hgm
              clear hgm hst
              go_wp2_with fail
              refine (H1.out _).mono ?_
              rintro e w2 ⟨rfl, hx3⟩
              have hx4 := (hx2.alloc (.cells #[.string s, .int .i64 z] 76)).trans hx3
              have HB := Lib.hid ((HM2.out.ext ((Ext.refl wr).alloc (.cells #[.string s, .int .i64 z] 76))).ext hx3)
              have HB1 := Lib.hid ((HM1.out.ext ((Ext.refl wr).alloc (.cells #[.string s, .int .i64 z] 76))).ext hx3)
              have hlk := HB.out.look (BA m) hms
              rw [HMD2.out, HGM.out] at hlk
              go_wp2_with (at_mapUpdate; refine wpList_bset rfl _ _ _ rfl wo.heap.size j _ rfl HB.out (by unfold maxLen; omega) (BA m) hms true rfl rfl ?_)
              intro w3 hm3 hg3
              have hx5 := hx4.grown hg3 (fun k hk => by cases hk; exact hx0.out.size)
              have HM3 := Lib.hid hm3
              have HM4 := Lib.hid (HB1.out.grown hg3 (by intro e; simp at e; omega))
              have HG := Lib.hid hg3
              clear hm3 hg3
              go_wp2_with fail
              go_roundw
              case rel =>
                refine ⟨j + 1, _, by omega, by go_num, hfin.out, HM4.out, ?_, hx5⟩
                have := HM3.out
                rw [HMD2.out] at this
                exact this
              case measure => simp [intOf]; omega
          | none =>
            have hcl := fun W => def_none (BA t.1) (.int .i64 (t.2 : Int)) W hsz hd
            have H1 := Lib.hid hcl
            cases hr : refN t.1 with
            | some m =>
              have hrl := fun W => ref_some (BA t.1) m (.int .i64 (t.2 : Int)) W hsz hr
              have hms : (BA m).size ≤ maxLen := by
                rw [BA_size]
                have hl2 := hts.1
                unfold refN at hr
                split at hr
                · rename_i r he
                  split at hr
                  · simp at hr; subst hr; rw [he] at hl2; simp at hl2; unfold maxLen; omega
                  · cases hr
                · cases hr
              have hst : Hid (chkA l = if defd l m = true then chkGo (defd l) g (l.drop (j + 1)) else ((t.2 : Int), 7)) := by
                show _ = _
                rw [hstep.out, hd, hr]
              have HMD2 := Lib.hid (BA_data m)
              have H2 := Lib.hid hrl
              clear hcl hrl hd hr hstep
              generalize BA t.1 = s at *
              generalize (t.2 : Int) = z at *
              cases hgm : defd l m with
              | true =>
                have hfin : Hid (chkGo (defd l) g (l.drop (j + 1)) = chkA l) := by show _ = _; rw [hst.out, if_pos hgm]
                have HGM := Lib.hid hgm
                clear hgm hst
                go_wp2_with fail
                refine (H1.out _).mono ?_
                rintro e w2 ⟨x, rfl, hx3⟩
                have hx4 := (hx2.alloc (.cells #[.string s, .int .i64 z] 76)).trans hx3
                have hcs : w2.cell? ⟨wr.heap.size, 0, none⟩ = some (.string s) := hx3.cell (by go_cell)
                have hcz : w2.cell? ⟨wr.heap.size, 1, none⟩ = some (.int .i64 z) := hx3.cell (by go_cell)
                go_wp2_with fail
                refine (H2.out _).mono ?_
                rintro e w3 ⟨rfl, hx5⟩
                have hx34 := hx3.trans hx5
                have HB := Lib.hid ((HM2.out.ext ((Ext.refl wr).alloc (.cells #[.string s, .int .i64 z] 76))).ext hx34)
                have HB1 := Lib.hid ((HM1.out.ext ((Ext.refl wr).alloc (.cells #[.string s, .int .i64 z] 76))).ext hx34)
                have hlk := HB1.out.look (BA m) hms
                rw [HMD2.out, HGM.out] at hlk
                go_wp2_with fail
                go_roundw
                case rel =>
                  refine ⟨j + 1, _, by omega, by go_num, hfin.out, HB1.out, ?_, hx4.trans hx5⟩
                  obtain ⟨D, g1, g2, g3⟩ := HB.out
                  exact ⟨D, g1.mono (by omega), g2, g3⟩
                case measure => simp [intOf]; omega
              | false =>
                have hfin : Hid (chkA l = (z, 7)) := by show _ = _; rw [hst.out, if_neg (by rw [hgm]; decide)]
                have HGM := Lib.hid hgm
                clear hgm hst
                go_wp2_with fail
                refine (H1.out _).mono ?_
                rintro e w2 ⟨x, rfl, hx3⟩
                have hx4 := (hx2.alloc (.cells #[.string s, .int .i64 z] 76)).trans hx3
                have hcs : w2.cell? ⟨wr.heap.size, 0, none⟩ = some (.string s) := hx3.cell (by go_cell)
                have hcz : w2.cell? ⟨wr.heap.size, 1, none⟩ = some (.int .i64 z) := hx3.cell (by go_cell)
                go_wp2_with fail
                refine (H2.out _).mono ?_
                rintro e w3 ⟨rfl, hx5⟩
                have hx34 := hx3.trans hx5
                have HB1 := Lib.hid ((HM1.out.ext ((Ext.refl wr).alloc (.cells #[.string s, .int .i64 z] 76))).ext hx34)
                have hlk := HB1.out.look (BA m) hms
                rw [HMD2.out, HGM.out] at hlk
                have hcz2 := hx5.cell hcz
                go_wp2_with fail
                go_ret2
                exact ⟨by rw [hfin.out]; rfl, hx4.trans hx5⟩
            | none =>
              have hrl := fun W => ref_none (BA t.1) (.int .i64 (t.2 : Int)) W hsz hr
              have hic := fun W => isCode_any (BA t.1) (.int .i64 (t.2 : Int)) W hsz
              rw [BA_data] at hic
              have hst : Hid (chkA l = if codeB t.1 = true then chkGo (defd l) g (l.drop (j + 1)) else ((t.2 : Int), 3)) := by
                show _ = _
                rw [hstep.out, hd, hr]
              have H2 := Lib.hid hrl
              generalize codeB t.1 = cd at *
              have H3 := Lib.hid hic
              clear hcl hrl hic hd hr hstep
              generalize BA t.1 = s at *
              generalize (t.2 : Int) = z at *
              go_wp2_with fail
              refine (H1.out _).mono ?_
              rintro e w2 ⟨x, rfl, hx3⟩
              have hx4 := (hx2.alloc (.cells #[.string s, .int .i64 z] 76)).trans hx3
              have hcs : w2.cell? ⟨wr.heap.size, 0, none⟩ = some (.string s) := hx3.cell (by go_cell)
              have hcz : w2.cell? ⟨wr.heap.size, 1, none⟩ = some (.int .i64 z) := hx3.cell (by go_cell)
              go_wp2_with fail
              refine (H2.out _).mono ?_
              rintro e w3 ⟨x2, rfl, hx5⟩
              have hcs2 := hx5.cell hcs
              have hcz2 := hx5.cell hcz
              go_wp2_with fail
              refine (H3.out _).mono ?_
              rintro e w4 ⟨rfl, hx6⟩
              have hcz3 := hx6.cell hcz2
              have hx34 := (hx3.trans hx5).trans hx6
              cases cd
              · have hfin : Hid (chkA l = (z, 3)) := hst.out
                clear hst
                go_wp2_with fail
                go_ret2
                exact ⟨by rw [hfin.out]; rfl, (hx4.trans hx5).trans hx6⟩
              · have hfin : Hid (chkGo (defd l) g (l.drop (j + 1)) = chkA l) := hst.out.symm
                clear hst
                have HB := Lib.hid ((HM2.out.ext ((Ext.refl wr).alloc (.cells #[.string s, .int .i64 z] 76))).ext hx34)
                have HB1 := Lib.hid ((HM1.out.ext ((Ext.refl wr).alloc (.cells #[.string s, .int .i64 z] 76))).ext hx34)
                go_wp2_with fail
                go_roundw
                case rel =>
                  refine ⟨j + 1, _, by omega, by go_num, hfin.out, HB1.out, ?_, (hx4.trans hx5).trans hx6⟩
                  obtain ⟨D, g1, g2, g3⟩ := HB.out
                  exact ⟨D, g1.mono (by omega), g2, g3⟩
                case measure => simp [intOf]; omega
        · obtain rfl : j = k := by omega
          have hfin : Hid (chkA l = (0, 0)) := by
            show _ = _
            rw [← HG.out, List.drop_of_length_le (by have := HL.out; omega)]
            rfl
          go_wp2_with fail
          go_ret2
          exact ⟨by rw [hfin.out]; rfl, hx2⟩
end Go.Proofs.YtimegcnpembhkaaDoor
