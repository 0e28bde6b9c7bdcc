/- The law AssemblerRoundTrip returns true. -/
import Derived.Test.YtimegcnpembhkaaDoorAsmAwake
import Derived.Test.YtimegcnpembhkaaDoorAsmBack
namespace Go.Proofs.YtimegcnpembhkaaDoor
open Go.RowKit
open Go.Lib hiding intOf
set_option linter.unusedVariables false

def dgCs : Bytes := [48, 49, 50, 51, 52, 53, 54, 55, 56, 57]
theorem dg_eq (c : UInt8) : dgCs.contains c = isDig c := u8_all (p := fun c => dgCs.contains c = isDig c) (by decide +kernel) c

set_option maxHeartbeats 4000000 in
set_option maxRecDepth 100000 in
theorem round_any (src : ByteArray) (o : Int) (w : World) (hs : src.size ≤ maxLen) (hE : Env w) :
    Calls Tryd.prog 8 #[.string src, .int .i64 o] w fun e w' => e = .returned (.bool true) ∧ Ext w w' := by
  have HAW := Lib.hid (fun W (hW : Env W) => awake_any W hW)
  unfold maxLen at hs
  by_cases g1 : (600 : Int) < src.size
  · go_enter Tryd.func8, Tryd.ntmps8
    go_wp2_with fail
    refine (HAW.out _ hE).mono ?_
    rintro e w1 ⟨rfl, hx⟩
    go_wp2_with fail
    go_ret
    exact ⟨rfl, hx⟩
  by_cases g2 : o < 0
  · go_enter Tryd.func8, Tryd.ntmps8
    go_wp2_with fail
    refine (HAW.out _ hE).mono ?_
    rintro e w1 ⟨rfl, hx⟩
    go_wp2_with fail
    go_ret
    exact ⟨rfl, hx⟩
  by_cases g3 : 262144 ≤ o
  · go_enter Tryd.func8, Tryd.ntmps8
    go_wp2_with fail
    refine (HAW.out _ hE).mono ?_
    rintro e w1 ⟨rfl, hx⟩
    go_wp2_with fail
    go_ret
    exact ⟨rfl, hx⟩
  have hA := fun W (hW : Env W) => assemble_any src o W (by omega) hW
  have hback := asm_back src.data.toList o
  have hbd := asm_bound src.data.toList o (by have : src.data.toList.length = src.size := rfl; omega)
  generalize asmA src.data.toList o = RA at *
  obtain ⟨s, l, n, e⟩ := RA
  simp only at hA hback hbd
  have HA := Lib.hid hA
  have hs1 := hbd.1
  clear hA hbd
  by_cases he : e = 0
  · subst he
    obtain ⟨Ts, k1, k2, k3, k4, k5⟩ := hback rfl
    have hD := fun W => disassemble_any (BA s) W (by rw [BA_size]; omega)
    rw [BA_data, k1] at hD
    have hB := fun W (hW : Env W) => assemble_any (BA (joinSp Ts)) o W (by rw [BA_size]; omega) hW
    rw [BA_data, k3] at hB
    simp only at hD hB
    have hW := fun W (hW : Env W) => awords_any (BA (joinSp Ts)) W (by rw [BA_size]; omega) hW
    have hlT : Ts.length ≤ 80000 := by
      have h1 := toks_length (joinSp Ts)
      rw [k2, List.length_map] at h1
      omega
    have hmem : ∀ t ∈ Ts, t.length ≤ 80000 := by
      intro t ht
      have h1 := (toks_mem (joinSp Ts) (t, 1) (by rw [k2]; exact List.mem_map.2 ⟨t, ht, rfl⟩)).2.1
      simp only at h1
      omega
    rw [BA_data, k2] at hW
    rw [List.length_map, List.map_map] at hW
    have hss : ((BA s).toList == (BA s).toList) = true := by simp
    generalize BA (joinSp Ts) = D at *
    generalize BA s = S at *
    have HD := Lib.hid hD
    have HB := Lib.hid hB
    have HW := Lib.hid hW
    have H4 := Lib.hid k4
    have HM := Lib.hid hmem
    clear hD hB hW k1 k2 k3 k4 k5 hmem hback
    go_enter Tryd.func8, Tryd.ntmps8
    go_wp2_with fail
    refine (HA.out _ hE).mono ?_
    rintro e0 w1 ⟨A, cA, rfl, hlA, hx1⟩
    go_wp2_with fail
    refine (HD.out _).mono ?_
    rintro e0 w2 ⟨rfl, hx2⟩
    have hx12 := hx1.trans hx2
    go_wp2_with fail
    refine (HB.out _ (hE.ext hx12)).mono ?_
    rintro e0 w3 ⟨B, cB, rfl, hlB, hx3⟩
    have hx13 := hx12.trans hx3
    go_wp2_with fail
    refine (HW.out _ (hE.ext hx13)).mono ?_
    rintro e0 w4 ⟨v, rfl, hown, hx4⟩
    obtain ⟨C, cC, rfl, hlC⟩ := Lst.of_own hown
    have hcr := hlC.room
    have hcm := hlC.max
    unfold maxLen at hcm
    have HC := Lib.hid hlC
    have hx14 := hx13.trans hx4
    have hE4 := hE.ext hx14
    clear hown hlC hlA hlB hx1 hx2 hx3 hx4
    go_wp2_with fail
    go_loopw [16, 56] (fun _ i wr => ∃ k : Nat, k ≤ Ts.length ∧ i = .int .i64 k ∧ Ext w4 wr) (fun _ i _ => Ts.length - (intOf i).toNat)
    case atStart => exact ⟨0, Nat.zero_le _, rfl, Ext.refl _⟩
    case round =>
      obtain ⟨k, hk, rfl, hx⟩ := hrel
      by_cases hlt : k < Ts.length
      · obtain ⟨b, off, rfl, hc⟩ := HC.out.at_ (by omega)
        have hc1 := hx.cell (hc k (by rw [List.length_map]; exact hlt))
        rw [List.getElem_map] at hc1
        have h4 := H4.out Ts[k] (List.getElem_mem hlt)
        have hm := HM.out Ts[k] (List.getElem_mem hlt)
        generalize Ts[k] = t at *
        simp only [Function.comp, wordV] at hc1
        have HCC := Lib.hid hc
        clear hc
        by_cases h1 : t.length ≤ 1
        · have hz : ((BA t).size : Int) ≤ 1 := by rw [BA_size]; omega
          clear h4
          generalize BA t = x at *
          go_wp2_with fail
          go_roundw
          case rel => exact ⟨k + 1, by omega, by go_num, hx⟩
          case measure => simp [intOf]; omega
        · have hz : 1 < ((BA t).size : Int) := by rw [BA_size]; omega
          have hd : ∀ c ∈ t, isDig c = true := by
            rcases h4 with h | h
            · omega
            · exact h
          have htr := fun W => trim_any dgCs (by decide) (by decide) (BA t) W (by rw [BA_size]; omega)
          rw [BA_data, show t.all (dgCs.contains ·) = true from List.all_eq_true.2 (fun c hc => by rw [dg_eq]; exact hd c hc)] at htr
          unfold dgCs at htr
          have HT := Lib.hid htr
          clear htr h4 hd
          generalize BA t = x at *
          go_wp2_with fail
          refine (HT.out _).mono ?_
          rintro e5 w5 ⟨r, rfl, hr, hx5⟩
          have hr2 : r.toList = [] := by simpa using hr
          clear hr
          go_wp2_with fail
          go_roundw
          case rel => exact ⟨k + 1, by omega, by go_num, hx.trans hx5⟩
          case measure => simp [intOf]; omega
      · obtain rfl : k = Ts.length := by omega
        go_wp2_with fail
        refine (HAW.out _ (hE4.ext hx)).mono ?_
        rintro e5 w5 ⟨rfl, hx5⟩
        go_wp2_with fail
        go_ret
        exact ⟨rfl, (hx14.trans hx).trans hx5⟩
  · have he' : (e != 0) = true := bne_iff_ne.2 he
    clear he hback
    go_enter Tryd.func8, Tryd.ntmps8
    go_wp2_with fail
    refine (HA.out _ hE).mono ?_
    rintro e0 w1 ⟨A, cA, rfl, hlA, hx1⟩
    go_wp2_with fail
    refine (HAW.out _ (hE.ext hx1)).mono ?_
    rintro e5 w5 ⟨rfl, hx5⟩
    go_wp2_with fail
    go_ret
    exact ⟨rfl, hx1.trans hx5⟩
end Go.Proofs.YtimegcnpembhkaaDoor
