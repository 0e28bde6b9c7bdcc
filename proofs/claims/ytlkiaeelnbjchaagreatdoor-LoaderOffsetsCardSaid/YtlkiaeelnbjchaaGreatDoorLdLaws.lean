/- The laws LoaderInputs and LoaderFinds return true. (Layer 27) -/
import Derived.Test.YtlkiaeelnbjchaaGreatDoorLdAwake
import Derived.Test.YtlkiaeelnbjchaaGreatDoorLdRef2
import Derived.BigQuiet
namespace Go.Proofs.YtlkiaeelnbjchaaGreatDoor
open Go.RowKit
open Go.Lib hiding intOf
set_option linter.unusedVariables false

theorem tot_mem : ∀ {rows : List ByteArray} {s : ByteArray}, s ∈ rows → s.size + 1 ≤ totR rows
  | x :: rows, s, h => by
    have e : totR (x :: rows) = (1 + x.size) + totR rows := by simp [totR]
    rw [e]
    rcases List.mem_cons.1 h with rfl | h
    · omega
    · have := tot_mem h; omega
theorem inputP_len (s : ByteArray) : (inputP s).length ≤ 1 + s.size := by
  unfold inputP
  split
  · exact Nat.zero_le _
  · rw [List.length_append, List.length_map]
    show s.size + 1 ≤ _
    omega
theorem inputL_len (rows : List ByteArray) (arch : Nat) : (inputL rows arch).length ≤ 1 + totR rows := by
  unfold inputL
  rw [List.length_cons]
  induction rows with
  | nil => simp
  | cons x rows ih =>
    have e : totR (x :: rows) = (1 + x.size) + totR rows := by simp [totR]
    rw [List.flatMap_cons, List.length_append, e]
    have := inputP_len x
    omega
theorem framesTo_len (s : List UInt8) (arch n : Nat) : (framesTo s arch n).length ≤ n := by
  induction n with
  | zero => simp [framesTo]
  | succ n ih =>
    rw [framesTo_succ, List.length_append]
    have : (frameAt s arch n).length ≤ 1 := by
      unfold frameAt
      split
      · split <;> simp
      · simp
    omega
theorem framesL_len (rows : List ByteArray) (arch : Nat) : (framesL rows arch).length ≤ totR rows := by
  unfold framesL
  induction rows with
  | nil => simp
  | cons x rows ih =>
    have e : totR (x :: rows) = (1 + x.size) + totR rows := by simp [totR]
    rw [List.flatMap_cons, List.length_append, e]
    have : (framesP arch x).length ≤ x.size - 767 := framesTo_len _ _ _
    omega

set_option maxRecDepth 100000 in
set_option maxHeartbeats 1600000 in
theorem lawFinds_any (A : Option Addr) (n cap arch : Nat) (rows : List ByteArray) (w : World) (ha : arch < 4294967296) (hl : Lst w A n cap (rows.map Value.string)) (hz : ∀ s ∈ rows, s.size ≤ maxLen) (hE : Env w) :
    Calls Tryz.prog 5 #[.slice A n cap, .int .u32 arch] w fun e w' => e = .returned (.bool true) ∧ Ext w w' := by
  have HW := Lib.hid (fun W (h : Env W) => awake7_any W h)
  have HG := Lib.hid (great_any A n cap rows w hl hz)
  go_enter Tryz.func5, Tryz.ntmps5
  go_wp2_with fail
  refine HG.out.mono ?_
  rintro e w1 ⟨z, rfl, hzz, rfl⟩
  rcases hzz with rfl | ⟨rfl, ht⟩
  · go_wp2_with fail
    refine (HW.out _ hE).mono ?_
    rintro e w1 ⟨rfl, hx⟩
    go_wp2_with fail
    go_ret
    exact ⟨rfl, hx⟩
  have hsm : ∀ s ∈ rows, s.size ≤ 1000000000 := fun s hs => by have := tot_mem hs; omega
  have hfl := framesL_len rows arch
  have HP := Lib.hid (pieces_any A n cap arch rows w hE ha hl hsm (by omega))
  have HR := Lib.hid (fun W (hx : Ext w W) => rpieces_any A n cap arch rows W ha (hl.ext hx) hsm (by omega))
  generalize framesL rows arch = L at *
  clear HG hl hz hsm ht hfl
  go_wp2_with fail
  refine HP.out.mono ?_
  rintro e w1 ⟨v1, rfl, ho1, hx1⟩
  obtain ⟨A1, c1, rfl, hl1⟩ := PLst.of_own ho1
  have HL1 := Lib.hid hl1
  clear ho1 hl1
  go_wp2_with fail
  refine (HR.out _ hx1).mono ?_
  rintro e w2 ⟨v2, rfl, ho2, hx2⟩
  obtain ⟨A2, c2, rfl, hl2⟩ := PLst.of_own ho2
  have HS := Lib.hid (psame_any A1 A2 L.length c1 c2 L w2 (HL1.out.ext hx2) hl2)
  have hx02 := hx1.trans hx2
  clear ho2 hl2
  go_wp2_with fail
  refine HS.out.mono ?_
  rintro e w3 ⟨rfl, hx3⟩
  have hx03 := hx02.trans hx3
  go_wp2_with fail
  refine (HW.out _ (hE.ext hx03)).mono ?_
  rintro e w4 ⟨rfl, hx4⟩
  go_wp2_with fail
  go_ret
  exact ⟨rfl, hx03.trans hx4⟩

set_option maxRecDepth 100000 in
set_option maxHeartbeats 1600000 in
theorem lawInputs_any (A : Option Addr) (n cap arch : Nat) (rows : List ByteArray) (w : World) (hl : Lst w A n cap (rows.map Value.string)) (hz : ∀ s ∈ rows, s.size ≤ maxLen) (hE : Env w) :
    Calls Tryz.prog 4 #[.slice A n cap, .int .u32 arch] w fun e w' => e = .returned (.bool true) ∧ Ext w w' := by
  have HW := Lib.hid (fun W (h : Env W) => awake7_any W h)
  have HG := Lib.hid (great_any A n cap rows w hl hz)
  go_enter Tryz.func4, Tryz.ntmps4
  go_wp2_with fail
  refine HG.out.mono ?_
  rintro e w1 ⟨z, rfl, hzz, rfl⟩
  rcases hzz with rfl | ⟨rfl, ht⟩
  · go_wp2_with fail
    refine (HW.out _ hE).mono ?_
    rintro e w1 ⟨rfl, hx⟩
    go_wp2_with fail
    go_ret
    exact ⟨rfl, hx⟩
  have hsm : ∀ s ∈ rows, s.size ≤ 1000000000 := fun s hs => by have := tot_mem hs; omega
  have hfl := inputL_len rows arch
  have HP := Lib.hid (input_any A n cap arch rows w hl hsm (by omega))
  have HR := Lib.hid (fun W (hx : Ext w W) => rinput_any A n cap arch rows W (hl.ext hx) hsm (by omega))
  generalize inputL rows arch = L at *
  generalize hN : L.length = N at *
  clear HG hl hz hsm ht hfl
  go_wp2_with fail
  refine HP.out.mono ?_
  rintro e w1 ⟨v1, rfl, ho1, hx1⟩
  obtain ⟨A1, c1, rfl, hl1⟩ := Lst.of_own ho1
  have HL1 := Lib.hid hl1
  clear ho1 hl1
  go_wp2_with fail
  refine (HR.out _ hx1).mono ?_
  rintro e w2 ⟨v2, rfl, ho2, hx2⟩
  obtain ⟨A2, c2, rfl, hl2⟩ := Lst.of_own ho2
  have HL1 := Lib.hid (HL1.out.ext hx2)
  have HL2 := Lib.hid hl2
  have r1 := HL1.out.room
  have m1 := HL1.out.max
  have r2 := HL2.out.room
  have m2 := HL2.out.max
  unfold maxLen at m1 m2
  have hx02 := hx1.trans hx2
  have HNL : Hid (N = L.length) := hN.symm
  clear ho2 hl2 hx1 hx2 hN
  go_wp2_with fail
  go_loopw [25] (fun iv wr => ∃ i : Nat, iv = .int .i64 i ∧ i ≤ N ∧ Ext w2 wr) (fun iv _ => N - (intOf iv).toNat)
  case atStart => exact ⟨0, rfl, Nat.zero_le _, Ext.refl _⟩
  case round =>
    obtain ⟨i, rfl, hi, hx⟩ := hrel
    by_cases hlt : i < N
    · obtain ⟨b1, o1, rfl, k1⟩ := HL1.out.at_ (by omega)
      obtain ⟨b2, o2, rfl, k2⟩ := HL2.out.at_ (by omega)
      have hil : i < (u32s L).length := by unfold u32s; rw [List.length_map, ← HNL.out]; exact hlt
      have e1 := hx.cell (k1 i hil)
      have e2 := hx.cell (k2 i hil)
      have hv : (u32s L)[i] = .int .u32 ((L[i]'(by rw [← HNL.out]; exact hlt) : Nat) : Int) := by simp [u32s]
      rw [hv] at e1 e2
      generalize (L[i]'(by rw [← HNL.out]; exact hlt)) = q at *
      have hqq : ((q : Int) == (q : Int)) = true := beq_self_eq_true _
      clear k1 k2 hv
      go_wp2_with fail
      go_quiet (fail)
      go_wp2_with fail
      go_roundw
      case rel => exact ⟨i + 1, by go_num, by omega, hx.drewN _⟩
      case measure => simp [intOf]; omega
    · obtain rfl : i = N := by omega
      have hx03 := hx02.trans hx
      go_wp2_with fail
      refine (HW.out _ (hE.ext hx03)).mono ?_
      rintro e w4 ⟨rfl, hx4⟩
      go_wp2_with fail
      go_ret
      exact ⟨rfl, hx03.trans hx4⟩
end Go.Proofs.YtlkiaeelnbjchaaGreatDoor
