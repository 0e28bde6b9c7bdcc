/- The law AssemblerOrigin returns true. -/
import Derived.Test.YtimegcnpembhkaaDoorAsmAwake
import Derived.Test.YtimegcnpembhkaaDoorAsmSim
import Derived.Deep.QuietTactic
import Derived.BigQuiet
namespace Go.Proofs.YtimegcnpembhkaaDoor
open Go.RowKit
open Go.Lib hiding intOf
set_option linter.unusedVariables false

theorem dig_int (c : UInt8) : isDig c = (decide (48 ≤ ((c.toNat : Nat) : Int)) && decide (((c.toNat : Nat) : Int) ≤ 57)) := by
  unfold isDig
  rw [Bool.eq_iff_iff]; simp; omega
theorem dig_bounds {c : UInt8} (h : isDig c = true) : 48 ≤ ((c.toNat : Nat) : Int) ∧ ((c.toNat : Nat) : Int) ≤ 57 := by
  rw [dig_int] at h
  simpa using h

set_option maxHeartbeats 4000000 in
set_option maxRecDepth 100000 in
theorem origin_any (src : ByteArray) (a b : Int) (w : World) (hs : src.size ≤ maxLen) (hE : Env w) :
    Calls Tryd.prog 4 #[.string src, .int .i64 a, .int .i64 b] w fun e w' => e = .returned (.bool true) ∧ Ext w w' := by
  have HAW := Lib.hid (fun W (hW : Env W) => awake_any W hW)
  unfold maxLen at hs
  have out : ∀ g : (600 : Int) < src.size ∨ a < 0 ∨ b < 0 ∨ 262144 ≤ a ∨ 262144 ≤ b, Calls Tryd.prog 4 #[.string src, .int .i64 a, .int .i64 b] w fun e w' => e = .returned (.bool true) ∧ Ext w w' := by
    intro g
    by_cases g1 : (600 : Int) < src.size
    · clear g
      go_enter Tryd.func4, Tryd.ntmps4
      go_wp2_with fail
      refine (HAW.out _ hE).mono ?_
      rintro e w1 ⟨rfl, hx⟩
      go_wp2_with fail
      go_ret
      exact ⟨rfl, hx⟩
    · by_cases g2 : a < 0
      · clear g
        go_enter Tryd.func4, Tryd.ntmps4
        go_wp2_with fail
        refine (HAW.out _ hE).mono ?_
        rintro e w1 ⟨rfl, hx⟩
        go_wp2_with fail
        go_ret
        exact ⟨rfl, hx⟩
      · by_cases g3 : b < 0
        · clear g
          go_enter Tryd.func4, Tryd.ntmps4
          go_wp2_with fail
          refine (HAW.out _ hE).mono ?_
          rintro e w1 ⟨rfl, hx⟩
          go_wp2_with fail
          go_ret
          exact ⟨rfl, hx⟩
        · by_cases g4 : 262144 ≤ a
          · clear g
            go_enter Tryd.func4, Tryd.ntmps4
            go_wp2_with fail
            refine (HAW.out _ hE).mono ?_
            rintro e w1 ⟨rfl, hx⟩
            go_wp2_with fail
            go_ret
            exact ⟨rfl, hx⟩
          · have g5 : 262144 ≤ b := by omega
            clear g
            go_enter Tryd.func4, Tryd.ntmps4
            go_wp2_with fail
            refine (HAW.out _ hE).mono ?_
            rintro e w1 ⟨rfl, hx⟩
            go_wp2_with fail
            go_ret
            exact ⟨rfl, hx⟩
  by_cases g : (600 : Int) < src.size ∨ a < 0 ∨ b < 0 ∨ 262144 ≤ a ∨ 262144 ≤ b
  · exact out g
  clear out
  have g1 : (src.size : Int) ≤ 600 := by omega
  have g2 : 0 ≤ a ∧ a < 262144 := by omega
  have g3 : 0 ≤ b ∧ b < 262144 := by omega
  clear g
  have hA := fun W (hW : Env W) => assemble_any src a W (by omega) hW
  have hB := fun W (hW : Env W) => assemble_any src b W (by omega) hW
  obtain ⟨s1, s2, s3⟩ := asm_sim src.data.toList a b g2 g3
  obtain ⟨b1, b2, b3⟩ := asm_bound src.data.toList a (by have : src.data.toList.length = src.size := rfl; omega)
  obtain ⟨c1, c2, c3⟩ := asm_bound src.data.toList b (by have : src.data.toList.length = src.size := rfl; omega)
  generalize asmA src.data.toList a = RA at *
  generalize asmA src.data.toList b = RB at *
  obtain ⟨s, l, n, e⟩ := RA
  obtain ⟨t, m, n', e'⟩ := RB
  simp only [Prod.mk.injEq] at s1 s2 s3 hA hB b1 b2 b3 c1 c2 c3
  obtain ⟨rfl, rfl⟩ := s3
  have hst := s1.length
  have hlm := s2.length
  have hg1 : ∀ (i : Nat) (h1 : i < (BA s).size) (h2 : i < (BA t).size), (BA s)[i] = (BA t)[i] ∨ (isDig (BA s)[i] = true ∧ isDig (BA t)[i] = true) := s1.get
  have hg2 := s2.get
  have hS1 : (BA s).size = s.length := BA_size s
  have hS2 : (BA t).size = t.length := BA_size t
  have hne1 : (((BA s).size : Int) != ((BA t).size : Int)) = false := by rw [hS1, hS2, hst]; simp
  have hne2 : ((l.length : Int) != (m.length : Int)) = false := by rw [hlm]; simp
  have i1 : (BA s).size ≤ (BA t).size := by omega
  have i2 : (BA t).size ≤ (BA s).size := by omega
  have i3 : l.length ≤ m.length := by omega
  have i4 : m.length ≤ l.length := by omega
  have i5 : (BA s).size ≤ 40000 := by omega
  generalize BA s = S at *
  generalize BA t = T at *
  have HA := Lib.hid hA
  have HB := Lib.hid hB
  have G1 := Lib.hid hg1
  have G2 := Lib.hid hg2
  have B3 := Lib.hid b3
  have C3 := Lib.hid c3
  clear hA hB s1 s2 hg1 hg2 b3 c3 hst hlm hS1 hS2 b1 c1
  go_enter Tryd.func4, Tryd.ntmps4
  go_wp2_with fail
  refine (HA.out _ hE).mono ?_
  rintro e0 w1 ⟨A, cA, rfl, hlA, hx1⟩
  go_wp2_with fail
  refine (HB.out _ (hE.ext hx1)).mono ?_
  rintro e0 w2 ⟨B, cB, rfl, hlB, hx2⟩
  have hlA2 := hlA.ext hx2
  have ca := hlA2.room
  have cb := hlB.room
  have cma := hlA2.max
  have cmb := hlB.max
  unfold maxLen at cma cmb
  have LA := Lib.hid hlA2
  have LB := Lib.hid hlB
  have hE2 := (hE.ext hx1).ext hx2
  have hx12 := hx1.trans hx2
  clear hlA hlB hlA2 hx1 hx2
  go_wp2_with fail
  go_loopw [15, 78] (fun _ i wr => ∃ k : Nat, k ≤ l.length ∧ i = .int .i64 k ∧ Ext w2 wr) (fun _ i _ => l.length - (intOf i).toNat)
  case atStart => exact ⟨0, Nat.zero_le _, rfl, Ext.refl _⟩
  case round =>
    obtain ⟨k, hk, rfl, hx0⟩ := hrel
    by_cases hlt : k < l.length
    · obtain ⟨ba, oa, rfl, ha⟩ := LA.out.at_ (by omega)
      obtain ⟨bb, ob, rfl, hb⟩ := LB.out.at_ (by omega)
      have e1 := hx0.cell (ha k (by rw [List.length_map]; exact hlt)).1
      have e2 := hx0.cell (ha k (by rw [List.length_map]; exact hlt)).2
      have e3 := hx0.cell (hb k (by rw [List.length_map]; omega)).1
      have e4 := hx0.cell (hb k (by rw [List.length_map]; omega)).2
      rw [List.getElem_map] at e1 e2 e3 e4
      obtain ⟨q1, q2⟩ := G2.out k hlt (by omega)
      have r1 := B3.out l[k] (List.getElem_mem hlt)
      have r2 := C3.out (m[k]'(by omega)) (List.getElem_mem (by omega))
      generalize l[k] = x at *
      generalize m[k]'(by omega) = y at *
      unfold labH at e1 e2 e3 e4
      simp only at e1 e2 e3 e4
      obtain ⟨x1, x2⟩ := x
      obtain ⟨y1, y2⟩ := y
      simp only at e1 e2 e3 e4 q1 q2 r1 r2
      subst q1
      have hq : ((BA x1).toList == (BA x1).toList) = true := by simp
      have hd : ((x2 - y2) != (a - b)) = false := by rw [q2]; simp
      have hr1 : 0 ≤ x2 ∧ x2 ≤ 20000000000 := ⟨r1.2.1, r1.2.2⟩
      have hr2 : 0 ≤ y2 ∧ y2 ≤ 20000000000 := ⟨r2.2.1, r2.2.2⟩
      have HX1 := Lib.hid ha
      have HX2 := Lib.hid hb
      clear ha hb q2 r1 r2
      generalize BA x1 = xs at *
      go_wp2_with fail
      go_quiet (fail)
      go_wp2_with fail
      go_roundw
      case rel => exact ⟨k + 1, by omega, by go_num, hx0.drewN _⟩
      case measure => simp [intOf]; omega
    · obtain rfl : k = l.length := by omega
      go_wp2_with fail
      go_loopw [16, 17, 112] (fun _ _ i wr => ∃ j : Nat, j ≤ S.size ∧ i = .int .i64 j ∧ Ext w2 wr) (fun _ _ i _ => S.size - (intOf i).toNat)
      case atStart => exact ⟨0, Nat.zero_le _, rfl, hx0⟩
      case round =>
        obtain ⟨j, hj, rfl, hx⟩ := hrel
        by_cases hlj : j < S.size
        · have hjt : j < T.size := by omega
          have hg := G1.out j hlj hjt
          by_cases heq : S[j] = T[j]
          · have hne : (((S[j].toNat : Nat) : Int) != ((T[j].toNat : Nat) : Int)) = false := by rw [heq]; simp
            have hn1 : ((S[j].toNat : Nat) : Int) ≤ ((T[j].toNat : Nat) : Int) := by rw [heq]; exact Int.le_refl _
            have hn2 : ((T[j].toNat : Nat) : Int) ≤ ((S[j].toNat : Nat) : Int) := by rw [heq]; exact Int.le_refl _
            clear heq hg
            by_cases k1 : 48 ≤ ((S[j].toNat : Nat) : Int)
            · by_cases k2 : ((S[j].toNat : Nat) : Int) ≤ 57
              · have k3 : 48 ≤ ((T[j].toNat : Nat) : Int) := by omega
                have k4 : ((T[j].toNat : Nat) : Int) ≤ 57 := by omega
                go_wp2_with fail
                go_quiet (fail)
                go_wp2_with fail
                go_roundw
                case rel => exact ⟨j + 1, by omega, by go_num, hx.drewN _⟩
                case measure => simp [intOf]; omega
              · go_wp2_with fail
                go_quiet (fail)
                go_wp2_with fail
                go_roundw
                case rel => exact ⟨j + 1, by omega, by go_num, hx.drewN _⟩
                case measure => simp [intOf]; omega
            · go_wp2_with fail
              go_quiet (fail)
              go_wp2_with fail
              go_roundw
              case rel => exact ⟨j + 1, by omega, by go_num, hx.drewN _⟩
              case measure => simp [intOf]; omega
          · have hdd : isDig S[j] = true ∧ isDig T[j] = true := by
              rcases hg with h | h
              · exact absurd h heq
              · exact h
            obtain ⟨k1, k2⟩ := dig_bounds hdd.1
            obtain ⟨k3, k4⟩ := dig_bounds hdd.2
            have hne : (((S[j].toNat : Nat) : Int) != ((T[j].toNat : Nat) : Int)) = true := by
              rw [bne_iff_ne]
              intro e
              exact heq (UInt8.toNat_inj.1 (by omega))
            clear heq hg hdd
            go_wp2_with fail
            go_quiet (fail)
            go_wp2_with fail
            go_roundw
            case rel => exact ⟨j + 1, by omega, by go_num, hx.drewN _⟩
            case measure => simp [intOf]; omega
        · obtain rfl : j = S.size := by omega
          go_wp2_with fail
          refine (HAW.out _ (hE2.ext hx)).mono ?_
          rintro e3 w3 ⟨rfl, hx3⟩
          go_wp2_with fail
          go_ret
          exact ⟨rfl, (hx12.trans hx).trans hx3⟩
end Go.Proofs.YtimegcnpembhkaaDoor
