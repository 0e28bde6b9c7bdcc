/- The law PlainframeDecode returns true. (Layer 26) -/
import Derived.Test.YtboafongjbdmoaaGreatDoorPfAwake
import Derived.Test.YtboafongjbdmoaaGreatDoorPfDec3
import Derived.Test.YtboafongjbdmoaaGreatDoorPfRDec3
namespace Go.Proofs.YtboafongjbdmoaaGreatDoor
open Go.RowKit
open Go.Lib hiding intOf
set_option linter.unusedVariables false

theorem pc_eq (a : Nat) (i t : Int) (s : ByteArray) (w : World) :
    (binOp .eql 26 (.agg #[.int .u32 a, .int .i64 i, .int .i64 t, .string s]) (.agg #[.int .u32 a, .int .i64 i, .int .i64 t, .string s])).run Tryz.prog w = .ok (.bool true) w := by
  have hu : Tryz.prog.underlying 26 = some (.struct (Tryz.prog.fieldsOf 26)) := by unfold Program.fieldsOf; rw [Tryz.underlying26]
  rw [run_eql_struct, run_equalIn_struct w 9999 _ _ _ hu (by kernel_rfl)]
  unfold Program.fieldsOf
  rw [Tryz.underlying26]
  simp [Op.eqFields, go_sem, Tryz.underlying9]

set_option maxRecDepth 100000 in
theorem sealed_any (s : ByteArray) (w : World) (hs : s.size ≤ 200) :
    Calls Tryz.prog 5 #[.string s] w fun e w' => ∃ D : ByteArray, e = .returned (.string D) ∧ D.size ≤ maxLen ∧ Ext w w' := by
  go_enter Tryz.func5, Tryz.ntmps5
  go_wp2_with fail
  go_loopw [0] (fun sv wr => ∃ x : ByteArray, sv = .string x ∧ x.size ≤ 200 ∧ wr = w) (fun sv _ => match sv with | .string x => 84 - x.size | _ => 0)
  case atStart => exact ⟨s, rfl, hs, rfl⟩
  case round =>
    obtain ⟨x, rfl, hx, rfl⟩ := hrel
    by_cases hlt : x.size < 84
    · have hz : (x ++ ⟨#[48]⟩ : ByteArray).size = x.size + 1 := by rw [ByteArray.size_append]; rfl
      go_wp2_with fail
      go_roundw
      case rel => exact ⟨_, rfl, by omega, trivial⟩
      case measure => show 84 - (x ++ ⟨#[48]⟩ : ByteArray).size < 84 - x.size; omega
    · have e1 : x.extract 0 84 = BA (x.data.toList.take 84) := by rw [ext_BA]; rfl
      have hl : (x.data.toList.take 84).length = 84 := by rw [List.length_take]; have : x.data.toList.length = x.size := rfl; omega
      have hS := fun W => rseal_any (x.data.toList.take 84) W (by omega)
      have hF := fun W => rfromBytes_any (BA (x.data.toList.take 84) ++ BA (lowD 10 (crcS (x.data.toList.take 84)))) W (by rw [← BA_append, BA_size, List.length_append, lowD_len]; omega)
      have hz1 : (BA (x.data.toList.take 84)).size = 84 := hl
      have hz2 : (BA (lowD 10 (crcS (x.data.toList.take 84)))).size = 10 := by rw [BA_size, lowD_len]
      have hzz : (BA (cellsB (BA (x.data.toList.take 84) ++ BA (lowD 10 (crcS (x.data.toList.take 84)))).data.toList)).size ≤ maxLen := by
        rw [BA_size, cellsB_len]
        show 8 * (BA (x.data.toList.take 84) ++ BA (lowD 10 (crcS (x.data.toList.take 84)))).size ≤ _
        rw [ByteArray.size_append, hz1, hz2]
        decide
      rw [← e1] at *
      generalize BA (lowD 10 (crcS (x.data.toList.take 84))) = Y at *
      generalize BA (cellsB (x.extract 0 84 ++ Y).data.toList) = Z at *
      have HS := Lib.hid hS
      have HF := Lib.hid hF
      clear hS hF e1 hl
      go_wp2_with fail
      refine (HS.out _).mono ?_
      rintro e w1 ⟨rfl, hx1⟩
      go_wp2_with fail
      refine (HF.out _).mono ?_
      rintro e w2 ⟨rfl, hx2⟩
      go_wp2_with fail
      go_ret
      exact ⟨_, rfl, hzz, hx1.trans hx2⟩

set_option maxRecDepth 100000 in
set_option maxHeartbeats 3200000 in
theorem lawDec_any (c s : ByteArray) (w : World) (hc : c.size ≤ maxLen) (hs : s.size ≤ maxLen) (hE : Env w) :
    Calls Tryz.prog 3 #[.string c, .string s] w fun e w' => e = .returned (.bool true) ∧ Ext w w' := by
  have HW := Lib.hid (fun W (h : Env W) => awake_any W h)
  have hc' := hc
  unfold maxLen at hc hs
  by_cases h6 : (1000 : Int) < c.size
  · go_enter Tryz.func3, Tryz.ntmps3
    go_wp2_with fail
    refine (HW.out _ hE).mono ?_
    rintro e w1 ⟨rfl, hx⟩
    go_wp2_with fail
    go_ret
    exact ⟨rfl, hx⟩
  by_cases h2 : (200 : Int) < s.size
  · go_enter Tryz.func3, Tryz.ntmps3
    go_wp2_with fail
    refine (HW.out _ hE).mono ?_
    rintro e w1 ⟨rfl, hx⟩
    go_wp2_with fail
    go_ret
    exact ⟨rfl, hx⟩
  have HSL := Lib.hid (fun W => sealed_any s W (by omega))
  have hA := fun W h => decode_any c W hc' h
  have hB := fun W => rdecode_any c W hc'
  have HDD : Hid (∀ D : ByteArray, D.size ≤ maxLen → ∃ a i t x E, (∀ W, Env W → Calls Tryz.prog 6 #[.string D] W fun e w' => e = .returned (.tuple #[.agg #[.int .u32 (a : Nat), .int .i64 i, .int .i64 t, .string x], .int .i64 E]) ∧ Ext W w') ∧
      (∀ W, Calls Tryz.prog 7 #[.string D] W fun e w' => e = .returned (.tuple #[.agg #[.int .u32 (a : Nat), .int .i64 i, .int .i64 t, .string x], .int .i64 E]) ∧ Ext W w')) := fun D hD =>
    ⟨(decodeA D.data.toList).1.arch, (decodeA D.data.toList).1.index, (decodeA D.data.toList).1.total, (decodeA D.data.toList).1.text, (decodeA D.data.toList).2, fun W h => decode_any D W hD h, fun W => rdecode_any D W hD⟩
  obtain ⟨a, i, t, x, E, hA, hB⟩ := HDD.out c hc'
  have HA := Lib.hid hA
  have HB := Lib.hid hB
  have hq := pc_eq a i t x
  have hEE : (E == E) = true := beq_self_eq_true _
  clear hA hB
  go_enter Tryz.func3, Tryz.ntmps3
  go_wp2_with fail
  refine (HSL.out _).mono ?_
  rintro e w1 ⟨D, rfl, hD, hx1⟩
  obtain ⟨a', i', t', x', E', hA', hB'⟩ := HDD.out D hD
  have HA' := Lib.hid hA'
  have HB' := Lib.hid hB'
  have hq' := pc_eq a' i' t' x'
  have hEE' : (E' == E') = true := beq_self_eq_true _
  clear hA' hB' hD
  have hE1 := hE.ext hx1
  go_wp2_with fail
  refine (HA.out _ hE1).mono ?_
  rintro e w2 ⟨rfl, hx⟩
  have hx2 := (hx1.trans hx).alloc (.cells #[.int .u32 a, .int .i64 i, .int .i64 t, .string x] 26)
  have b1 : Blk (w2.alloc (.cells #[.int .u32 a, .int .i64 i, .int .i64 t, .string x] 26)) w2.heap.size 26 [.int .u32 a, .int .i64 i, .int .i64 t, .string x] := by show (w2.heap.push _)[w2.heap.size]? = _; simp
  have B1 := Lib.hid b1
  clear hx hE1 hx1 b1
  go_wp2_with fail
  refine (HB.out _).mono ?_
  rintro e w3 ⟨rfl, hx⟩
  have hx3 := (hx2.trans hx).alloc (.cells #[.int .u32 a, .int .i64 i, .int .i64 t, .string x] 26)
  have B1 := Lib.hid ((B1.out.ext hx).alloc (.cells #[.int .u32 a, .int .i64 i, .int .i64 t, .string x] 26))
  have b2 : Blk (w3.alloc (.cells #[.int .u32 a, .int .i64 i, .int .i64 t, .string x] 26)) w3.heap.size 26 [.int .u32 a, .int .i64 i, .int .i64 t, .string x] := by show (w3.heap.push _)[w3.heap.size]? = _; simp
  have B2 := Lib.hid b2
  have hE3 := hE.ext hx3
  clear hx hx2 b2
  go_wp2_with fail
  refine (HA'.out _ hE3).mono ?_
  rintro e w4 ⟨rfl, hx⟩
  have hx4 := (hx3.trans hx).alloc (.cells #[.int .u32 a', .int .i64 i', .int .i64 t', .string x'] 26)
  have B1 := Lib.hid ((B1.out.ext hx).alloc (.cells #[.int .u32 a', .int .i64 i', .int .i64 t', .string x'] 26))
  have B2 := Lib.hid ((B2.out.ext hx).alloc (.cells #[.int .u32 a', .int .i64 i', .int .i64 t', .string x'] 26))
  have b3 : Blk (w4.alloc (.cells #[.int .u32 a', .int .i64 i', .int .i64 t', .string x'] 26)) w4.heap.size 26 [.int .u32 a', .int .i64 i', .int .i64 t', .string x'] := by show (w4.heap.push _)[w4.heap.size]? = _; simp
  have B3 := Lib.hid b3
  clear hx hx3 b3 hE3
  go_wp2_with fail
  refine (HB'.out _).mono ?_
  rintro e w5 ⟨rfl, hx⟩
  have hx5 := (hx4.trans hx).alloc (.cells #[.int .u32 a', .int .i64 i', .int .i64 t', .string x'] 26)
  obtain ⟨p0, p1, p2, p3, -⟩ := four ((B1.out.ext hx).alloc (.cells #[.int .u32 a', .int .i64 i', .int .i64 t', .string x'] 26))
  obtain ⟨q0, q1, q2, q3, -⟩ := four ((B2.out.ext hx).alloc (.cells #[.int .u32 a', .int .i64 i', .int .i64 t', .string x'] 26))
  obtain ⟨r0, r1, r2, r3, -⟩ := four ((B3.out.ext hx).alloc (.cells #[.int .u32 a', .int .i64 i', .int .i64 t', .string x'] 26))
  have hE5 := hE.ext hx5
  clear hx hx4
  go_wp2_with fail
  refine (HW.out _ hE5).mono ?_
  rintro e w6 ⟨rfl, hx⟩
  go_wp2_with fail
  go_ret
  exact ⟨rfl, hx5.trans hx⟩
end Go.Proofs.YtboafongjbdmoaaGreatDoor
