/- Contract: Decode of the library. (Layer 26) -/
import Derived.Test.YtjmglbppmolipaaGreatDoorPfDecP
import Derived.Test.YtjmglbppmolipaaGreatDoorPfBytes
import Derived.Test.YtjmglbppmolipaaGreatDoorPfEnc
import Derived.Test.YtjmglbppmolipaaGreatDoorBytesMem
import Derived.WalkSpells
import Derived.Lib.ParseIntBCases
namespace Go.Proofs.YtjmglbppmolipaaGreatDoor
open Go.RowKit
open Go.Lib hiding intOf
set_option linter.unusedVariables false

theorem digits_all (l : List UInt8) : l.all ([48, 49, 50, 51, 52, 53, 54, 55, 56, 57].contains ·) = digB l := by
  have h : ∀ c : Fin 256, [48, 49, 50, 51, 52, 53, 54, 55, 56, 57].contains (UInt8.ofNat c.val) = digC (UInt8.ofNat c.val) := by decide +kernel
  unfold digB
  congr 1
  funext c
  have := h ⟨c.toNat, c.toNat_lt⟩
  simpa using this

set_option maxRecDepth 100000 in
set_option maxHeartbeats 800000 in
theorem parse_any (s : ByteArray) (w : World) (h1 : 1 ≤ s.size) (h2 : s.size ≤ 18) :
    Calls Tryz.prog 83 #[.string s] w fun e w' => e = .returned (.tuple #[.int .u64 (if digB s.data.toList then numD s.data.toList else 0 : Nat), .bool (digB s.data.toList)]) ∧ Ext w w' := by
  have hT := fun W => trim_any [48, 49, 50, 51, 52, 53, 54, 55, 56, 57] (by decide) (by decide) s W (by omega)
  rw [digits_all] at hT
  by_cases hd : digB s.data.toList = true
  · have hp : Lib.parseUintB 64 s.data.toList = .ok (numD s.data.toList) := by
      unfold Lib.parseUintB
      rw [if_neg (fun e => by rw [show s.size = s.data.toList.length from rfl, e] at h1; simp at h1), show 2 ^ 64 - 1 = 18446744073709551615 by decide, Lib.parseUintM_64]
      exact parse_digits _ 0 0 (by decide) (by rw [Nat.zero_add]; exact h2) hd
    have hU : ∀ W, Calls Tryz.prog 85 #[.string s, .int .i64 10, .int .i64 64] W fun e w' => e = .returned (.tuple #[.int .u64 (numD s.data.toList : Nat), .nilIface]) ∧ Ext W w' := fun W => (Tryz.strconv_ParseUint_10_at64_ok s (by omega) _ hp W).mono fun e w' h => ⟨h.1, h.2.elim (fun e => e ▸ Ext.refl _) (fun e => e ▸ bytesW_ext W _ s)⟩
    rw [hd] at hT ⊢
    rw [if_pos rfl]
    generalize numD s.data.toList = n at *
    have HU := Lib.hid hU
    have HT := Lib.hid hT
    clear hU hT hp hd
    go_enter Tryz.func83, Tryz.ntmps83
    go_wp2_with fail
    refine (HT.out _).mono ?_
    rintro e w1 ⟨r, rfl, hr, hx⟩
    go_wp2_with fail
    refine (HU.out _).mono ?_
    rintro e w2 ⟨rfl, hx2⟩
    go_wp2_with fail
    go_quiet (fail)
    go_wp2_with fail
    refine bodyPost_ret (v := .tuple #[.int .u64 n, .bool true]) (by simp [results, Tryz.results83, go_sem]) rfl ⟨rfl, (hx.trans hx2).drewN _⟩
  · rw [Bool.not_eq_true] at hd
    rw [hd] at hT ⊢
    have HT := Lib.hid hT
    clear hT hd
    go_enter Tryz.func83, Tryz.ntmps83
    go_wp2_with fail
    refine (HT.out _).mono ?_
    rintro e w1 ⟨r, rfl, hr, hx⟩
    go_wp2_with fail
    refine bodyPost_ret (v := .tuple #[.int .u64 0, .bool false]) (by simp [results, Tryz.results83, go_sem]) rfl ⟨rfl, hx⟩

set_option maxRecDepth 100000 in
theorem unread_any (s : ByteArray) (w : World) :
    Calls Tryz.prog 94 #[.string s] w fun e w' => e = .returned (.int .i64 (Lib.countByte s.data.toList 63 : Nat)) ∧ w = w' := by
  have hC := fun W => Tryz.strings_Count_one s 63 W
  generalize Lib.countByte s.data.toList 63 = n at *
  have HC := Lib.hid hC
  clear hC
  go_enter Tryz.func94, Tryz.ntmps94
  go_wp2_with fail
  refine (HC.out _).mono ?_
  rintro e w1 ⟨rfl, rfl⟩
  go_wp2_with fail
  go_ret
  exact ⟨rfl, rfl⟩
theorem count_pos (l : List UInt8) : 0 < Lib.countByte l 63 ↔ l.contains 63 = true := by
  unfold Lib.countByte
  rw [List.count_pos_iff, List.contains_iff_mem]

theorem ext_take (l : List UInt8) (a b : Nat) (h : a ≤ b) : (BA l).extract a b = BA ((l.drop a).take (b - a)) := by rw [ext_BA, BA_data]
theorem four {w : World} {b : Nat} {T : TypeId} {x0 x1 x2 x3 : Value} (h : Blk w b T [x0, x1, x2, x3]) :
    w.cell? ⟨b, 0, none⟩ = some x0 ∧ w.cell? ⟨b, 1, none⟩ = some x1 ∧ w.cell? ⟨b, 2, none⟩ = some x2 ∧ w.cell? ⟨b, 3, none⟩ = some x3 ∧ w.frozen? ⟨b, 0, none⟩ = false ∧ w.frozen? ⟨b, 1, none⟩ = false ∧ w.frozen? ⟨b, 2, none⟩ = false ∧ w.frozen? ⟨b, 3, none⟩ = false :=
  ⟨h.cell rfl, h.cell rfl, h.cell rfl, h.cell rfl, Lib.frozen_of_heap h 0, Lib.frozen_of_heap h 1, Lib.frozen_of_heap h 2, Lib.frozen_of_heap h 3⟩

theorem put_four {w w1 : World} {b : Nat} {T : TypeId} {x0 x1 x2 x3 : Value} (hb : w.heap.size ≤ b) (h : Blk w1 b T [x0, x1, x2, x3]) (hx : Ext w w1) (y0 y1 y2 y3 : Value) (W' : World)
    (hW : (((w1.setCell ⟨b, 0, none⟩ y0).setCell ⟨b, 1, none⟩ y1).setCell ⟨b, 2, none⟩ y2).setCell ⟨b, 3, none⟩ y3 = W') :
    W'.cell? ⟨b, 0, none⟩ = some y0 ∧ W'.cell? ⟨b, 1, none⟩ = some y1 ∧ W'.cell? ⟨b, 2, none⟩ = some y2 ∧ W'.cell? ⟨b, 3, none⟩ = some y3 ∧ Ext w W' := by
  obtain ⟨c0, c1, c2, c3, -⟩ := four h
  subst hW
  refine ⟨by go_cell, by go_cell, by go_cell, by go_cell, (((hx.set hb _).set hb _).set hb _).set hb _⟩

set_option maxRecDepth 100000 in
set_option maxHeartbeats 3200000 in
theorem dec_syntax (s : ByteArray) (w : World) (hC : ∀ W, Calls Tryz.prog 93 #[.string s] W fun e w' => e = .returned (.int .i64 3) ∧ Ext W w') :
    Calls Tryz.prog 65 #[.string s] w fun e w' => e = .returned (.tuple #[zP.val, .int .i64 3]) ∧ Ext w w' := by
  have HB0 : Hid (Blk (w.alloc (.cells #[.int .u32 0, .int .i64 0, .int .i64 0, .string ⟨#[]⟩] 57)) w.heap.size 57 [.int .u32 0, .int .i64 0, .int .i64 0, .string ⟨#[]⟩]) := by show (w.heap.push _)[w.heap.size]? = _; simp
  have hx0 : Ext w (w.alloc (.cells #[.int .u32 0, .int .i64 0, .int .i64 0, .string ⟨#[]⟩] 57)) := (Ext.refl w).alloc _
  have HC := Lib.hid hC
  clear hC
  go_enter Tryz.func65, Tryz.ntmps65
  go_wp2_with fail
  refine (HC.out _).mono ?_
  rintro e w1 ⟨rfl, hx⟩
  have HBZ := Lib.hid (HB0.out.ext hx)
  obtain ⟨c0, c1, c2, c3, f0, f1, f2, f3⟩ := four HBZ.out
  have hx1 := hx0.trans hx
  clear hx hx0
  go_wp2_with fail
  generalize hW : (((w1.setCell ⟨w.heap.size, 0, none⟩ (.int .u32 0)).setCell ⟨w.heap.size, 1, none⟩ (.int .i64 0)).setCell ⟨w.heap.size, 2, none⟩ (.int .i64 0)).setCell ⟨w.heap.size, 3, none⟩ (.string ⟨#[]⟩) = W'
  obtain ⟨d0, d1, d2, d3, hxx⟩ := put_four (Nat.le_refl _) HBZ.out hx1 _ _ _ _ W' hW
  clear hW c0 c1 c2 c3 f0 f1 f2 f3
  refine bodyPost_ret (v := .tuple #[zP.val, .int .i64 3]) ?_ rfl ⟨rfl, hxx⟩
  simp [results, Tryz.results65, go_sem, zP, Pc.val, d0, d1, d2, d3]; rfl

set_option maxRecDepth 100000 in
set_option maxHeartbeats 3200000 in
theorem dec_short (s : ByteArray) (w : World) (hC : ∀ W, Calls Tryz.prog 93 #[.string s] W fun e w' => e = .returned (.int .i64 0) ∧ Ext W w') (h2 : ¬ (s.size : Int) = 752) :
    Calls Tryz.prog 65 #[.string s] w fun e w' => e = .returned (.tuple #[zP.val, .int .i64 4]) ∧ Ext w w' := by
  have HB0 : Hid (Blk (w.alloc (.cells #[.int .u32 0, .int .i64 0, .int .i64 0, .string ⟨#[]⟩] 57)) w.heap.size 57 [.int .u32 0, .int .i64 0, .int .i64 0, .string ⟨#[]⟩]) := by show (w.heap.push _)[w.heap.size]? = _; simp
  have hx0 : Ext w (w.alloc (.cells #[.int .u32 0, .int .i64 0, .int .i64 0, .string ⟨#[]⟩] 57)) := (Ext.refl w).alloc _
  have HC := Lib.hid hC
  clear hC
  go_enter Tryz.func65, Tryz.ntmps65
  go_wp2_with fail
  refine (HC.out _).mono ?_
  rintro e w1 ⟨rfl, hx⟩
  have HBZ := Lib.hid (HB0.out.ext hx)
  obtain ⟨c0, c1, c2, c3, f0, f1, f2, f3⟩ := four HBZ.out
  have hx1 := hx0.trans hx
  clear hx hx0
  go_wp2_with fail
  generalize hW : (((w1.setCell ⟨w.heap.size, 0, none⟩ (.int .u32 0)).setCell ⟨w.heap.size, 1, none⟩ (.int .i64 0)).setCell ⟨w.heap.size, 2, none⟩ (.int .i64 0)).setCell ⟨w.heap.size, 3, none⟩ (.string ⟨#[]⟩) = W'
  obtain ⟨d0, d1, d2, d3, hxx⟩ := put_four (Nat.le_refl _) HBZ.out hx1 _ _ _ _ W' hW
  clear hW c0 c1 c2 c3 f0 f1 f2 f3
  refine bodyPost_ret (v := .tuple #[zP.val, .int .i64 4]) ?_ rfl ⟨rfl, hxx⟩
  simp [results, Tryz.results65, go_sem, zP, Pc.val, d0, d1, d2, d3]; rfl

set_option maxRecDepth 100000 in
set_option maxHeartbeats 3200000 in
theorem dec_open (s : ByteArray) (w : World) (hC : ∀ W, Calls Tryz.prog 93 #[.string s] W fun e w' => e = .returned (.int .i64 0) ∧ Ext W w') (h2 : s.size = 752) (k : Nat) (hk : 0 < k) (hU : ∀ W, Calls Tryz.prog 94 #[.string s] W fun e w' => e = .returned (.int .i64 (k : Nat)) ∧ W = w') :
    Calls Tryz.prog 65 #[.string s] w fun e w' => e = .returned (.tuple #[zP.val, .int .i64 11]) ∧ Ext w w' := by
  have HB0 : Hid (Blk (w.alloc (.cells #[.int .u32 0, .int .i64 0, .int .i64 0, .string ⟨#[]⟩] 57)) w.heap.size 57 [.int .u32 0, .int .i64 0, .int .i64 0, .string ⟨#[]⟩]) := by show (w.heap.push _)[w.heap.size]? = _; simp
  have hx0 : Ext w (w.alloc (.cells #[.int .u32 0, .int .i64 0, .int .i64 0, .string ⟨#[]⟩] 57)) := (Ext.refl w).alloc _
  have HC := Lib.hid hC
  have HU := Lib.hid hU
  clear hC hU
  go_enter Tryz.func65, Tryz.ntmps65
  go_wp2_with fail
  refine (HC.out _).mono ?_
  rintro e w1 ⟨rfl, hx⟩
  have HBZ := Lib.hid (HB0.out.ext hx)
  obtain ⟨c0, c1, c2, c3, f0, f1, f2, f3⟩ := four HBZ.out
  have hx1 := hx0.trans hx
  clear hx hx0
  go_wp2_with fail
  refine (HU.out _).mono ?_
  rintro e w1 ⟨rfl, rfl⟩
  go_wp2_with fail
  generalize hW : (((w1.setCell ⟨w.heap.size, 0, none⟩ (.int .u32 0)).setCell ⟨w.heap.size, 1, none⟩ (.int .i64 0)).setCell ⟨w.heap.size, 2, none⟩ (.int .i64 0)).setCell ⟨w.heap.size, 3, none⟩ (.string ⟨#[]⟩) = W'
  obtain ⟨d0, d1, d2, d3, hxx⟩ := put_four (Nat.le_refl _) HBZ.out hx1 _ _ _ _ W' hW
  clear hW c0 c1 c2 c3 f0 f1 f2 f3
  refine bodyPost_ret (v := .tuple #[zP.val, .int .i64 11]) ?_ rfl ⟨rfl, hxx⟩
  simp [results, Tryz.results65, go_sem, zP, Pc.val, d0, d1, d2, d3]; rfl

set_option maxRecDepth 100000 in
set_option maxHeartbeats 3200000 in
theorem dec_sum (s : ByteArray) (w : World) (hC : ∀ W, Calls Tryz.prog 93 #[.string s] W fun e w' => e = .returned (.int .i64 0) ∧ Ext W w') (h2 : s.size = 752) (hU : ∀ W, Calls Tryz.prog 94 #[.string s] W fun e w' => e = .returned (.int .i64 (0 : Nat)) ∧ W = w') (X : ByteArray) (hz : X.size = 94) (hT : ∀ W, Calls Tryz.prog 95 #[.string s] W fun e w' => (∃ v, e = .returned (.tuple #[.string X, v, .int .i64 0])) ∧ Ext W w') (Y : ByteArray) (hS : ∀ W, Env W → Calls Tryz.prog 51 #[.string (X.extract 0 84)] W fun e w' => e = .returned (.string Y) ∧ Ext W w') (hne : (Y.toList == X.toList) = false) (hE : Env w) :
    Calls Tryz.prog 65 #[.string s] w fun e w' => e = .returned (.tuple #[zP.val, .int .i64 5]) ∧ Ext w w' := by
  have HB0 : Hid (Blk (w.alloc (.cells #[.int .u32 0, .int .i64 0, .int .i64 0, .string ⟨#[]⟩] 57)) w.heap.size 57 [.int .u32 0, .int .i64 0, .int .i64 0, .string ⟨#[]⟩]) := by show (w.heap.push _)[w.heap.size]? = _; simp
  have hx0 : Ext w (w.alloc (.cells #[.int .u32 0, .int .i64 0, .int .i64 0, .string ⟨#[]⟩] 57)) := (Ext.refl w).alloc _
  have HC := Lib.hid hC
  have HU := Lib.hid hU
  have HT := Lib.hid hT
  have HS := Lib.hid hS
  clear hC hU hT hS
  go_enter Tryz.func65, Tryz.ntmps65
  go_wp2_with fail
  refine (HC.out _).mono ?_
  rintro e w1 ⟨rfl, hx⟩
  have HB1 := Lib.hid (HB0.out.ext hx)
  have hx1 := hx0.trans hx
  clear hx hx0
  go_wp2_with fail
  refine (HU.out _).mono ?_
  rintro e w1 ⟨rfl, rfl⟩
  go_wp2_with fail
  refine (HT.out _).mono ?_
  rintro e w2 ⟨⟨v, rfl⟩, hx⟩
  have HB2 := Lib.hid (HB1.out.ext hx)
  have hx2 := hx1.trans hx
  clear hx hx1
  go_wp2_with fail
  refine (HS.out _ (hE.ext hx2)).mono ?_
  rintro e w1 ⟨rfl, hx⟩
  have HBZ := Lib.hid (HB2.out.ext hx)
  obtain ⟨c0, c1, c2, c3, f0, f1, f2, f3⟩ := four HBZ.out
  have hx1 := hx2.trans hx
  clear hx hx2
  go_wp2_with fail
  generalize hW : (((w1.setCell ⟨w.heap.size, 0, none⟩ (.int .u32 0)).setCell ⟨w.heap.size, 1, none⟩ (.int .i64 0)).setCell ⟨w.heap.size, 2, none⟩ (.int .i64 0)).setCell ⟨w.heap.size, 3, none⟩ (.string ⟨#[]⟩) = W'
  obtain ⟨d0, d1, d2, d3, hxx⟩ := put_four (Nat.le_refl _) HBZ.out hx1 _ _ _ _ W' hW
  clear hW c0 c1 c2 c3 f0 f1 f2 f3
  refine bodyPost_ret (v := .tuple #[zP.val, .int .i64 5]) ?_ rfl ⟨rfl, hxx⟩
  simp [results, Tryz.results65, go_sem, zP, Pc.val, d0, d1, d2, d3]; rfl

end Go.Proofs.YtjmglbppmolipaaGreatDoor
