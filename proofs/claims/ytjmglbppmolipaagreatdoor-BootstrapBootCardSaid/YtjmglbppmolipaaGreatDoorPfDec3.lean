/- Contract: Decode of the library, the end. (Layer 26) -/
import Derived.Test.YtjmglbppmolipaaGreatDoorPfDec2
namespace Go.Proofs.YtjmglbppmolipaaGreatDoor
open Go.RowKit
open Go.Lib hiding intOf
set_option linter.unusedVariables false

set_option maxRecDepth 100000 in
set_option maxHeartbeats 3200000 in
theorem dec_range (s : ByteArray) (w : World) (hC : ∀ W, Calls Tryz.prog 93 #[.string s] W fun e w' => e = .returned (.int .i64 0) ∧ Ext W w') (h2 : s.size = 752) (hU : ∀ W, Calls Tryz.prog 94 #[.string s] W fun e w' => e = .returned (.int .i64 (0 : Nat)) ∧ W = w') (X : ByteArray) (hz : X.size = 94) (hT : ∀ W, Calls Tryz.prog 95 #[.string s] W fun e w' => (∃ v, e = .returned (.tuple #[.string X, v, .int .i64 0])) ∧ Ext W w') (hS : ∀ W, Env W → Calls Tryz.prog 51 #[.string (X.extract 0 84)] W fun e w' => e = .returned (.string X) ∧ Ext W w') (hE : Env w) (n1 : Nat) (hP1 : ∀ W, Calls Tryz.prog 83 #[.string (X.extract 0 10)] W fun e w' => e = .returned (.tuple #[.int .u64 (n1 : Nat), .bool true]) ∧ Ext W w') (n2 : Nat) (hP2 : ∀ W, Calls Tryz.prog 83 #[.string (X.extract 10 15)] W fun e w' => e = .returned (.tuple #[.int .u64 (n2 : Nat), .bool true]) ∧ Ext W w') (n3 : Nat) (hP3 : ∀ W, Calls Tryz.prog 83 #[.string (X.extract 15 20)] W fun e w' => e = .returned (.tuple #[.int .u64 (n3 : Nat), .bool true]) ∧ Ext W w') (hn1 : 4294967295 < n1) :
    Calls Tryz.prog 65 #[.string s] w fun e w' => e = .returned (.tuple #[zP.val, .int .i64 2]) ∧ Ext w w' := by
  have HB0 : Hid (Blk (w.alloc (.cells #[.int .u32 0, .int .i64 0, .int .i64 0, .string ⟨#[]⟩] 57)) w.heap.size 57 [.int .u32 0, .int .i64 0, .int .i64 0, .string ⟨#[]⟩]) := by show (w.heap.push _)[w.heap.size]? = _; simp
  have hx0 : Ext w (w.alloc (.cells #[.int .u32 0, .int .i64 0, .int .i64 0, .string ⟨#[]⟩] 57)) := (Ext.refl w).alloc _
  have HC := Lib.hid hC
  have HU := Lib.hid hU
  have HT := Lib.hid hT
  have HS := Lib.hid hS
  have HG := Lib.hid (fun W => digits_any 10 W)
  have HG5 := Lib.hid (fun W => digits_any 5 W)
  have HP1 := Lib.hid hP1
  have HP2 := Lib.hid hP2
  have HP3 := Lib.hid hP3
  have hXX := str_sameD X
  clear hC hU hT hS hP1 hP2 hP3
  go_enter Tryz.func65, Tryz.ntmps65
  go_wp2_with fail
  refine (HC.out _).mono ?_
  rintro e w1 ⟨rfl, hx⟩
  have HB1 := Lib.hid (HB0.out.ext hx)
  have hx1 := hx0.trans hx
  clear hx hx0
  go_wp2_with fail
  refine (HU.out _).mono ?_
  rintro e w1 ⟨rfl, rfl⟩
  go_wp2_with fail
  refine (HT.out _).mono ?_
  rintro e w2 ⟨⟨v, rfl⟩, hx⟩
  have HB2 := Lib.hid (HB1.out.ext hx)
  have hx2 := hx1.trans hx
  clear hx hx1
  go_wp2_with fail
  refine (HS.out _ (hE.ext hx2)).mono ?_
  rintro e w1 ⟨rfl, hx⟩
  have HB3 := Lib.hid (HB2.out.ext hx)
  have hx3 := hx2.trans hx
  clear hx hx2
  go_wp2_with fail
  refine (HG.out _).mono ?_
  rintro e w3 ⟨rfl, rfl⟩
  have HB4 := Lib.hid (HB3.out.alloc (.cells #[.int .i64 10] 3))
  have hx4 := hx3.alloc (.cells #[.int .i64 10] 3)
  clear hx3
  go_wp2_with fail
  refine (HG5.out _).mono ?_
  rintro e w3 ⟨rfl, rfl⟩
  have HB5 := Lib.hid (HB4.out.alloc (.cells #[.int .i64 5] 3))
  have hx5 := hx4.alloc (.cells #[.int .i64 5] 3)
  clear hx4
  go_wp2_with fail
  refine (HP1.out _).mono ?_
  rintro e w4 ⟨rfl, hx⟩
  have HB6 := Lib.hid (HB5.out.ext hx)
  have hx6 := hx5.trans hx
  clear hx hx5
  go_wp2_with fail
  refine (HP2.out _).mono ?_
  rintro e w5 ⟨rfl, hx⟩
  have HB7 := Lib.hid (HB6.out.ext hx)
  have hx7 := hx6.trans hx
  clear hx hx6
  go_wp2_with fail
  refine (HP3.out _).mono ?_
  rintro e w1 ⟨rfl, hx⟩
  have HBZ := Lib.hid (HB7.out.ext hx)
  obtain ⟨c0, c1, c2, c3, f0, f1, f2, f3⟩ := four HBZ.out
  have hx1 := hx7.trans hx
  clear hx hx7
  go_wp2_with fail
  generalize hW : (((w1.setCell ⟨w.heap.size, 0, none⟩ (.int .u32 0)).setCell ⟨w.heap.size, 1, none⟩ (.int .i64 0)).setCell ⟨w.heap.size, 2, none⟩ (.int .i64 0)).setCell ⟨w.heap.size, 3, none⟩ (.string ⟨#[]⟩) = W'
  obtain ⟨d0, d1, d2, d3, hxx⟩ := put_four (Nat.le_refl _) HBZ.out hx1 _ _ _ _ W' hW
  clear hW c0 c1 c2 c3 f0 f1 f2 f3
  refine bodyPost_ret (v := .tuple #[zP.val, .int .i64 2]) ?_ rfl ⟨rfl, hxx⟩
  simp [results, Tryz.results65, go_sem, zP, Pc.val, d0, d1, d2, d3]; rfl

set_option maxRecDepth 100000 in
set_option maxHeartbeats 3200000 in
theorem dec_bad (s : ByteArray) (w : World) (hC : ∀ W, Calls Tryz.prog 93 #[.string s] W fun e w' => e = .returned (.int .i64 0) ∧ Ext W w') (h2 : s.size = 752) (hU : ∀ W, Calls Tryz.prog 94 #[.string s] W fun e w' => e = .returned (.int .i64 (0 : Nat)) ∧ W = w') (X : ByteArray) (hz : X.size = 94) (hT : ∀ W, Calls Tryz.prog 95 #[.string s] W fun e w' => (∃ v, e = .returned (.tuple #[.string X, v, .int .i64 0])) ∧ Ext W w') (hS : ∀ W, Env W → Calls Tryz.prog 51 #[.string (X.extract 0 84)] W fun e w' => e = .returned (.string X) ∧ Ext W w') (hE : Env w) (n1 : Nat) (hP1 : ∀ W, Calls Tryz.prog 83 #[.string (X.extract 0 10)] W fun e w' => e = .returned (.tuple #[.int .u64 (n1 : Nat), .bool true]) ∧ Ext W w') (n2 : Nat) (hP2 : ∀ W, Calls Tryz.prog 83 #[.string (X.extract 10 15)] W fun e w' => e = .returned (.tuple #[.int .u64 (n2 : Nat), .bool true]) ∧ Ext W w') (n3 : Nat) (hP3 : ∀ W, Calls Tryz.prog 83 #[.string (X.extract 15 20)] W fun e w' => e = .returned (.tuple #[.int .u64 (n3 : Nat), .bool true]) ∧ Ext W w') (hn1 : n1 ≤ 4294967295) (hn2 : n2 ≤ 99999) (hn3 : n3 ≤ 99999) (E : Int) (hK : ∀ W, Calls Tryz.prog 47 #[.agg #[.int .u32 n1, .int .i64 n2, .int .i64 n3, .string (X.extract 20 84)]] W fun e w' => e = .returned (.int .i64 E) ∧ Ext W w') (hE0 : (E == 0) = false) :
    Calls Tryz.prog 65 #[.string s] w fun e w' => e = .returned (.tuple #[zP.val, .int .i64 E]) ∧ Ext w w' := by
  have HB0 : Hid (Blk (w.alloc (.cells #[.int .u32 0, .int .i64 0, .int .i64 0, .string ⟨#[]⟩] 57)) w.heap.size 57 [.int .u32 0, .int .i64 0, .int .i64 0, .string ⟨#[]⟩]) := by show (w.heap.push _)[w.heap.size]? = _; simp
  have hx0 : Ext w (w.alloc (.cells #[.int .u32 0, .int .i64 0, .int .i64 0, .string ⟨#[]⟩] 57)) := (Ext.refl w).alloc _
  have HC := Lib.hid hC
  have HU := Lib.hid hU
  have HT := Lib.hid hT
  have HS := Lib.hid hS
  have HG := Lib.hid (fun W => digits_any 10 W)
  have HG5 := Lib.hid (fun W => digits_any 5 W)
  have HP1 := Lib.hid hP1
  have HP2 := Lib.hid hP2
  have HP3 := Lib.hid hP3
  have hXX := str_sameD X
  have HK := Lib.hid hK
  clear hC hU hT hS hP1 hP2 hP3 hK
  go_enter Tryz.func65, Tryz.ntmps65
  go_wp2_with fail
  refine (HC.out _).mono ?_
  rintro e w1 ⟨rfl, hx⟩
  have HB1 := Lib.hid (HB0.out.ext hx)
  have hx1 := hx0.trans hx
  clear hx hx0
  go_wp2_with fail
  refine (HU.out _).mono ?_
  rintro e w1 ⟨rfl, rfl⟩
  go_wp2_with fail
  refine (HT.out _).mono ?_
  rintro e w2 ⟨⟨v, rfl⟩, hx⟩
  have HB2 := Lib.hid (HB1.out.ext hx)
  have hx2 := hx1.trans hx
  clear hx hx1
  go_wp2_with fail
  refine (HS.out _ (hE.ext hx2)).mono ?_
  rintro e w1 ⟨rfl, hx⟩
  have HB3 := Lib.hid (HB2.out.ext hx)
  have hx3 := hx2.trans hx
  clear hx hx2
  go_wp2_with fail
  refine (HG.out _).mono ?_
  rintro e w3 ⟨rfl, rfl⟩
  have HB4 := Lib.hid (HB3.out.alloc (.cells #[.int .i64 10] 3))
  have hx4 := hx3.alloc (.cells #[.int .i64 10] 3)
  clear hx3
  go_wp2_with fail
  refine (HG5.out _).mono ?_
  rintro e w3 ⟨rfl, rfl⟩
  have HB5 := Lib.hid (HB4.out.alloc (.cells #[.int .i64 5] 3))
  have hx5 := hx4.alloc (.cells #[.int .i64 5] 3)
  clear hx4
  go_wp2_with fail
  refine (HP1.out _).mono ?_
  rintro e w4 ⟨rfl, hx⟩
  have HB6 := Lib.hid (HB5.out.ext hx)
  have hx6 := hx5.trans hx
  clear hx hx5
  go_wp2_with fail
  refine (HP2.out _).mono ?_
  rintro e w5 ⟨rfl, hx⟩
  have HB7 := Lib.hid (HB6.out.ext hx)
  have hx7 := hx6.trans hx
  clear hx hx6
  go_wp2_with fail
  refine (HP3.out _).mono ?_
  rintro e w1 ⟨rfl, hx⟩
  have HB8 := Lib.hid (HB7.out.ext hx)
  have hx8 := hx7.trans hx
  clear hx hx7
  go_wp2_with fail
  refine (HK.out _).mono ?_
  rintro e w6 ⟨rfl, hx⟩
  have HBZ := Lib.hid ((HB8.out.alloc (.cells #[.int .u32 n1, .int .i64 n2, .int .i64 n3, .string (X.extract 20 84)] 57)).ext hx)
  obtain ⟨c0, c1, c2, c3, f0, f1, f2, f3⟩ := four HBZ.out
  have hx1 := (hx8.alloc (.cells #[.int .u32 n1, .int .i64 n2, .int .i64 n3, .string (X.extract 20 84)] 57)).trans hx
  clear hx hx8
  go_wp2_with fail
  generalize hW : (((w6.setCell ⟨w.heap.size, 0, none⟩ (.int .u32 0)).setCell ⟨w.heap.size, 1, none⟩ (.int .i64 0)).setCell ⟨w.heap.size, 2, none⟩ (.int .i64 0)).setCell ⟨w.heap.size, 3, none⟩ (.string ⟨#[]⟩) = W'
  obtain ⟨d0, d1, d2, d3, hxx⟩ := put_four (Nat.le_refl _) HBZ.out hx1 _ _ _ _ W' hW
  clear hW c0 c1 c2 c3 f0 f1 f2 f3
  refine bodyPost_ret (v := .tuple #[zP.val, .int .i64 E]) ?_ rfl ⟨rfl, hxx⟩
  simp [results, Tryz.results65, go_sem, zP, Pc.val, d0, d1, d2, d3]; rfl

set_option maxRecDepth 100000 in
set_option maxHeartbeats 3200000 in
theorem dec_good (s : ByteArray) (w : World) (hC : ∀ W, Calls Tryz.prog 93 #[.string s] W fun e w' => e = .returned (.int .i64 0) ∧ Ext W w') (h2 : s.size = 752) (hU : ∀ W, Calls Tryz.prog 94 #[.string s] W fun e w' => e = .returned (.int .i64 (0 : Nat)) ∧ W = w') (X : ByteArray) (hz : X.size = 94) (hT : ∀ W, Calls Tryz.prog 95 #[.string s] W fun e w' => (∃ v, e = .returned (.tuple #[.string X, v, .int .i64 0])) ∧ Ext W w') (hS : ∀ W, Env W → Calls Tryz.prog 51 #[.string (X.extract 0 84)] W fun e w' => e = .returned (.string X) ∧ Ext W w') (hE : Env w) (n1 : Nat) (hP1 : ∀ W, Calls Tryz.prog 83 #[.string (X.extract 0 10)] W fun e w' => e = .returned (.tuple #[.int .u64 (n1 : Nat), .bool true]) ∧ Ext W w') (n2 : Nat) (hP2 : ∀ W, Calls Tryz.prog 83 #[.string (X.extract 10 15)] W fun e w' => e = .returned (.tuple #[.int .u64 (n2 : Nat), .bool true]) ∧ Ext W w') (n3 : Nat) (hP3 : ∀ W, Calls Tryz.prog 83 #[.string (X.extract 15 20)] W fun e w' => e = .returned (.tuple #[.int .u64 (n3 : Nat), .bool true]) ∧ Ext W w') (hn1 : n1 ≤ 4294967295) (hn2 : n2 ≤ 99999) (hn3 : n3 ≤ 99999) (hK : ∀ W, Calls Tryz.prog 47 #[.agg #[.int .u32 n1, .int .i64 n2, .int .i64 n3, .string (X.extract 20 84)]] W fun e w' => e = .returned (.int .i64 0) ∧ Ext W w') :
    Calls Tryz.prog 65 #[.string s] w fun e w' => e = .returned (.tuple #[.agg #[.int .u32 n1, .int .i64 n2, .int .i64 n3, .string (X.extract 20 84)], .int .i64 0]) ∧ Ext w w' := by
  have HB0 : Hid (Blk (w.alloc (.cells #[.int .u32 0, .int .i64 0, .int .i64 0, .string ⟨#[]⟩] 57)) w.heap.size 57 [.int .u32 0, .int .i64 0, .int .i64 0, .string ⟨#[]⟩]) := by show (w.heap.push _)[w.heap.size]? = _; simp
  have hx0 : Ext w (w.alloc (.cells #[.int .u32 0, .int .i64 0, .int .i64 0, .string ⟨#[]⟩] 57)) := (Ext.refl w).alloc _
  have HC := Lib.hid hC
  have HU := Lib.hid hU
  have HT := Lib.hid hT
  have HS := Lib.hid hS
  have HG := Lib.hid (fun W => digits_any 10 W)
  have HG5 := Lib.hid (fun W => digits_any 5 W)
  have HP1 := Lib.hid hP1
  have HP2 := Lib.hid hP2
  have HP3 := Lib.hid hP3
  have hXX := str_sameD X
  have HK := Lib.hid hK
  clear hC hU hT hS hP1 hP2 hP3 hK
  go_enter Tryz.func65, Tryz.ntmps65
  go_wp2_with fail
  refine (HC.out _).mono ?_
  rintro e w1 ⟨rfl, hx⟩
  have HB1 := Lib.hid (HB0.out.ext hx)
  have hx1 := hx0.trans hx
  clear hx hx0
  go_wp2_with fail
  refine (HU.out _).mono ?_
  rintro e w1 ⟨rfl, rfl⟩
  go_wp2_with fail
  refine (HT.out _).mono ?_
  rintro e w2 ⟨⟨v, rfl⟩, hx⟩
  have HB2 := Lib.hid (HB1.out.ext hx)
  have hx2 := hx1.trans hx
  clear hx hx1
  go_wp2_with fail
  refine (HS.out _ (hE.ext hx2)).mono ?_
  rintro e w1 ⟨rfl, hx⟩
  have HB3 := Lib.hid (HB2.out.ext hx)
  have hx3 := hx2.trans hx
  clear hx hx2
  go_wp2_with fail
  refine (HG.out _).mono ?_
  rintro e w3 ⟨rfl, rfl⟩
  have HB4 := Lib.hid (HB3.out.alloc (.cells #[.int .i64 10] 3))
  have hx4 := hx3.alloc (.cells #[.int .i64 10] 3)
  clear hx3
  go_wp2_with fail
  refine (HG5.out _).mono ?_
  rintro e w3 ⟨rfl, rfl⟩
  have HB5 := Lib.hid (HB4.out.alloc (.cells #[.int .i64 5] 3))
  have hx5 := hx4.alloc (.cells #[.int .i64 5] 3)
  clear hx4
  go_wp2_with fail
  refine (HP1.out _).mono ?_
  rintro e w4 ⟨rfl, hx⟩
  have HB6 := Lib.hid (HB5.out.ext hx)
  have hx6 := hx5.trans hx
  clear hx hx5
  go_wp2_with fail
  refine (HP2.out _).mono ?_
  rintro e w5 ⟨rfl, hx⟩
  have HB7 := Lib.hid (HB6.out.ext hx)
  have hx7 := hx6.trans hx
  clear hx hx6
  go_wp2_with fail
  refine (HP3.out _).mono ?_
  rintro e w1 ⟨rfl, hx⟩
  have HB8 := Lib.hid (HB7.out.ext hx)
  have hx8 := hx7.trans hx
  clear hx hx7
  go_wp2_with fail
  refine (HK.out _).mono ?_
  rintro e w6 ⟨rfl, hx⟩
  have hb6 : Blk (w1.alloc (.cells #[.int .u32 n1, .int .i64 n2, .int .i64 n3, .string (X.extract 20 84)] 57)) w1.heap.size 57 [.int .u32 n1, .int .i64 n2, .int .i64 n3, .string (X.extract 20 84)] := by show (w1.heap.push _)[w1.heap.size]? = _; simp
  obtain ⟨p0, p1, p2, p3, -⟩ := four (hb6.ext hx)
  have HBZ := Lib.hid ((HB8.out.alloc (.cells #[.int .u32 n1, .int .i64 n2, .int .i64 n3, .string (X.extract 20 84)] 57)).ext hx)
  obtain ⟨c0, c1, c2, c3, f0, f1, f2, f3⟩ := four HBZ.out
  have hx1 := (hx8.alloc (.cells #[.int .u32 n1, .int .i64 n2, .int .i64 n3, .string (X.extract 20 84)] 57)).trans hx
  clear hx hx8 hb6
  go_wp2_with fail
  generalize hW : (((w6.setCell ⟨w.heap.size, 0, none⟩ (.int .u32 n1)).setCell ⟨w.heap.size, 1, none⟩ (.int .i64 n2)).setCell ⟨w.heap.size, 2, none⟩ (.int .i64 n3)).setCell ⟨w.heap.size, 3, none⟩ (.string (X.extract 20 84)) = W'
  obtain ⟨d0, d1, d2, d3, hxx⟩ := put_four (Nat.le_refl _) HBZ.out hx1 _ _ _ _ W' hW
  clear hW c0 c1 c2 c3 f0 f1 f2 f3
  refine bodyPost_ret (v := .tuple #[.agg #[.int .u32 n1, .int .i64 n2, .int .i64 n3, .string (X.extract 20 84)], .int .i64 0]) ?_ rfl ⟨rfl, hxx⟩
  simp [results, Tryz.results65, go_sem, d0, d1, d2, d3]

theorem decode_any (s : ByteArray) (w : World) (hs : s.size ≤ maxLen) (hE : Env w) :
    Calls Tryz.prog 65 #[.string s] w fun e w' => e = .returned (.tuple #[(decodeA s.data.toList).1.val, .int .i64 (decodeA s.data.toList).2]) ∧ Ext w w' := by
  have hC := fun W => ccheck_any s W hs
  unfold maxLen at hs
  unfold chkC at hC
  unfold decodeA
  by_cases h1 : cellsOk s.data.toList = true
  rotate_left
  · rw [if_neg h1] at hC
    rw [Bool.not_eq_true] at h1
    rw [if_pos h1]
    exact dec_syntax s w hC
  rw [if_pos h1] at hC
  rw [if_neg (by rw [h1]; decide)]
  by_cases h2 : s.size = 752
  rotate_left
  · rw [if_pos (show s.data.toList.length ≠ 752 from h2)]
    exact dec_short s w hC (by omega)
  rw [if_neg (show ¬ s.data.toList.length ≠ 752 from fun h => h h2)]
  have hU := fun W => unread_any s W
  by_cases h3 : s.data.toList.contains 63 = true
  · rw [if_pos h3]
    exact dec_open s w hC h2 _ ((count_pos s.data.toList).2 h3) hU
  rw [if_neg h3]
  have hk0 : Lib.countByte s.data.toList 63 = 0 := Nat.eq_zero_of_not_pos (fun h => h3 ((count_pos _).1 h))
  rw [hk0] at hU
  have hT := fun W => toBytes_any s W (by omega) h1 94 (by omega)
  have htl : (bytesC s.data.toList).length = 94 := by rw [bytesC_len]; show s.size / 8 = 94; omega
  generalize bytesC s.data.toList = t at *
  have hz : (BA t).size = 94 := htl
  have e84 : (BA t).extract 0 84 = BA (t.take 84) := by rw [ext_take t 0 84 (by omega)]; rfl
  have hS := fun W (h : Env W) => seal_any (t.take 84) W (by rw [List.length_take]; omega) h
  rw [← e84] at hS
  unfold textA
  by_cases h4 : t.drop 84 = lowD 10 (crcS (t.take 84))
  rotate_left
  · rw [if_neg h4]
    refine dec_sum s w hC h2 hU (BA t) hz hT _ hS ?_ hE
    rw [beq_eq_false_iff_ne, ByteArray.toList_eq, ByteArray.toList_eq]
    intro e
    apply h4
    have e : sealB (t.take 84) = t := e
    rw [← (seal_take (t.take 84) (by rw [List.length_take]; omega)).2, e]
  rw [if_pos h4]
  have hst : sealB (t.take 84) = t := by unfold sealB; rw [← h4, List.take_append_drop]
  rw [hst] at hS
  have e1 : (BA t).extract 0 10 = BA (t.take 10) := by rw [ext_take t 0 10 (by omega)]; rfl
  have e2 : (BA t).extract 10 15 = BA ((t.drop 10).take 5) := ext_take t 10 15 (by omega)
  have e3 : (BA t).extract 15 20 = BA ((t.drop 15).take 5) := ext_take t 15 20 (by omega)
  have e4 : (BA t).extract 20 84 = BA ((t.drop 20).take 64) := ext_take t 20 84 (by omega)
  have z1 : (t.take 10).length = 10 := by rw [List.length_take]; omega
  have z2 : ((t.drop 10).take 5).length = 5 := by rw [List.length_take, List.length_drop]; omega
  have z3 : ((t.drop 15).take 5).length = 5 := by rw [List.length_take, List.length_drop]; omega
  have z4 : ((t.drop 20).take 64).length = 64 := by rw [List.length_take, List.length_drop]; omega
  have hP1 := fun W => parse_any (BA (t.take 10)) W (by rw [BA_size]; omega) (by rw [BA_size]; omega)
  have hP2 := fun W => parse_any (BA ((t.drop 10).take 5)) W (by rw [BA_size]; omega) (by rw [BA_size]; omega)
  have hP3 := fun W => parse_any (BA ((t.drop 15).take 5)) W (by rw [BA_size]; omega) (by rw [BA_size]; omega)
  have hK := fun (n1 n2 n3 : Nat) W => pcheck_any (n1 : Int) (n2 : Int) (n3 : Int) (BA ((t.drop 20).take 64)) W (by rw [BA_size]; unfold maxLen; omega)
  rw [BA_data] at hP1 hP2 hP3
  rw [← e1] at hP1
  rw [← e2] at hP2
  rw [← e3] at hP3
  rw [← e4] at hK
  have hdd : digB (t.take 20) = (digB (t.take 10) && digB ((t.drop 10).take 5) && digB ((t.drop 15).take 5)) := by
    have : t.take 20 = t.take 10 ++ ((t.drop 10).take 5 ++ (t.drop 15).take 5) := by
      rw [show (20 : Nat) = 10 + 10 from rfl, List.take_add, show (t.drop 10).take 10 = (t.drop 10).take (5 + 5) from rfl, List.take_add, List.drop_drop]
    rw [this, digB_append, digB_append, Bool.and_assoc]
  unfold fieldsA
  rw [hdd]
  by_cases h5 : (digB (t.take 10) && digB ((t.drop 10).take 5) && digB ((t.drop 15).take 5)) = false
  · rw [if_pos h5]
    exact dec_digits s w hC h2 hU (BA t) hz hT hS hE _ _ hP1 _ _ hP2 _ _ hP3 h5
  rw [if_neg h5]
  rw [Bool.not_eq_false, Bool.and_eq_true, Bool.and_eq_true] at h5
  obtain ⟨⟨d1, d2⟩, d3⟩ := h5
  rw [d1, if_pos rfl] at hP1
  rw [d2, if_pos rfl] at hP2
  rw [d3, if_pos rfl] at hP3
  have b2 := numD_lt _ d2
  have b3 := numD_lt _ d3
  rw [z2] at b2
  rw [z3] at b3
  by_cases h6 : 4294967295 < numD (t.take 10)
  · rw [if_pos h6]
    exact dec_range s w hC h2 hU (BA t) hz hT hS hE _ hP1 _ hP2 _ hP3 h6
  rw [if_neg h6]
  have hK := hK (numD (t.take 10)) (numD ((t.drop 10).take 5)) (numD ((t.drop 15).take 5))
  rw [e4] at hK
  by_cases h7 : checkZ (numD ((t.drop 10).take 5)) (numD ((t.drop 15).take 5)) (BA ((t.drop 20).take 64)) = 0
  · rw [h7] at hK ⊢
    rw [if_neg (by decide)]
    have := dec_good s w hC h2 hU (BA t) hz hT hS hE _ hP1 _ hP2 _ hP3 (by omega) (by omega) (by omega) (by rw [e4]; exact hK)
    rwa [e4] at this
  · rw [if_pos h7]
    exact dec_bad s w hC h2 hU (BA t) hz hT hS hE _ hP1 _ hP2 _ hP3 (by omega) (by omega) (by omega) _ (by rw [e4]; exact hK) (by simpa using h7)
end Go.Proofs.YtjmglbppmolipaaGreatDoor
