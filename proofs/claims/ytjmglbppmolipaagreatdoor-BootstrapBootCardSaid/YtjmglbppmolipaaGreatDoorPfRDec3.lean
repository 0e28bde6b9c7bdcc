/- Contract of the reference's Decode. (Layer 26; printed by bin/genrdec.py) -/
import Derived.Test.YtjmglbppmolipaaGreatDoorPfRDec2
import Derived.WalkSpells
namespace Go.Proofs.YtjmglbppmolipaaGreatDoor
open Go.RowKit
open Go.Lib hiding intOf
set_option linter.unusedVariables false
attribute [local simp] Slots Slot look Is Oper.looksAt Op.operands Call.operands

set_option maxRecDepth 100000 in
set_option maxHeartbeats 3200000 in
theorem rdec_syntax (s : ByteArray) (w : World) (hC : ∀ W, Calls Tryz.prog 111 #[.string s] W fun e w' => e = .returned (.int .i64 3) ∧ W = w') :
    Calls Tryz.prog 92 #[.string s] w fun e w' => e = .returned (.tuple #[zP.val, .int .i64 3]) ∧ Ext w w' := by
  have HB0 : Hid (Blk (w.alloc (.cells #[.int .u32 0, .int .i64 0, .int .i64 0, .string ⟨#[]⟩] 57)) w.heap.size 57 [.int .u32 0, .int .i64 0, .int .i64 0, .string ⟨#[]⟩]) := by show (w.heap.push _)[w.heap.size]? = _; simp
  have hx0 : Ext w (w.alloc (.cells #[.int .u32 0, .int .i64 0, .int .i64 0, .string ⟨#[]⟩] 57)) := (Ext.refl w).alloc _
  have HC := Lib.hid hC
  clear hC
  go_enter Tryz.func92, Tryz.ntmps92
  go_wp2_with fail
  refine (HC.out _).mono ?_
  rintro e w1 ⟨rfl, rfl⟩
  have HBZ := HB0
  obtain ⟨c0, c1, c2, c3, f0, f1, f2, f3⟩ := four HBZ.out
  have hx1 := hx0
  go_wp2_with fail
  refine bodyPost_ret (v := .tuple #[zP.val, .int .i64 3]) ?_ rfl ⟨rfl, hx0⟩
  simp [results, Tryz.results92, go_sem, zP, Pc.val, c0, c1, c2, c3]; try rfl

set_option maxRecDepth 100000 in
set_option maxHeartbeats 3200000 in
theorem rdec_short (s : ByteArray) (w : World) (hC : ∀ W, Calls Tryz.prog 111 #[.string s] W fun e w' => e = .returned (.int .i64 0) ∧ W = w') (h2 : ¬ (s.size : Int) = 752) :
    Calls Tryz.prog 92 #[.string s] w fun e w' => e = .returned (.tuple #[zP.val, .int .i64 4]) ∧ Ext w w' := by
  have HB0 : Hid (Blk (w.alloc (.cells #[.int .u32 0, .int .i64 0, .int .i64 0, .string ⟨#[]⟩] 57)) w.heap.size 57 [.int .u32 0, .int .i64 0, .int .i64 0, .string ⟨#[]⟩]) := by show (w.heap.push _)[w.heap.size]? = _; simp
  have hx0 : Ext w (w.alloc (.cells #[.int .u32 0, .int .i64 0, .int .i64 0, .string ⟨#[]⟩] 57)) := (Ext.refl w).alloc _
  have HC := Lib.hid hC
  clear hC
  go_enter Tryz.func92, Tryz.ntmps92
  go_wp2_with fail
  refine (HC.out _).mono ?_
  rintro e w1 ⟨rfl, rfl⟩
  have HBZ := HB0
  obtain ⟨c0, c1, c2, c3, f0, f1, f2, f3⟩ := four HBZ.out
  have hx1 := hx0
  go_wp2_with fail
  refine bodyPost_ret (v := .tuple #[zP.val, .int .i64 4]) ?_ rfl ⟨rfl, hx0⟩
  simp [results, Tryz.results92, go_sem, zP, Pc.val, c0, c1, c2, c3]; try rfl

set_option maxRecDepth 100000 in
set_option maxHeartbeats 3200000 in
theorem rdec_open (s : ByteArray) (w : World) (hC : ∀ W, Calls Tryz.prog 111 #[.string s] W fun e w' => e = .returned (.int .i64 0) ∧ W = w') (h2 : s.size = 752) (k : Nat) (hk : 0 < k) (hU : ∀ W, Calls Tryz.prog 112 #[.string s] W fun e w' => e = .returned (.int .i64 (k : Nat)) ∧ W = w') :
    Calls Tryz.prog 92 #[.string s] w fun e w' => e = .returned (.tuple #[zP.val, .int .i64 11]) ∧ Ext w w' := by
  have HB0 : Hid (Blk (w.alloc (.cells #[.int .u32 0, .int .i64 0, .int .i64 0, .string ⟨#[]⟩] 57)) w.heap.size 57 [.int .u32 0, .int .i64 0, .int .i64 0, .string ⟨#[]⟩]) := by show (w.heap.push _)[w.heap.size]? = _; simp
  have hx0 : Ext w (w.alloc (.cells #[.int .u32 0, .int .i64 0, .int .i64 0, .string ⟨#[]⟩] 57)) := (Ext.refl w).alloc _
  have HC := Lib.hid hC
  have HU := Lib.hid hU
  clear hC hU
  go_enter Tryz.func92, Tryz.ntmps92
  go_wp2_with fail
  refine (HC.out _).mono ?_
  rintro e w1 ⟨rfl, rfl⟩
  have HBZ := HB0
  obtain ⟨c0, c1, c2, c3, f0, f1, f2, f3⟩ := four HBZ.out
  have hx1 := hx0
  go_wp2_with fail
  refine (HU.out _).mono ?_
  rintro e w1 ⟨rfl, rfl⟩
  go_wp2_with fail
  refine bodyPost_ret (v := .tuple #[zP.val, .int .i64 11]) ?_ rfl ⟨rfl, hx0⟩
  simp [results, Tryz.results92, go_sem, zP, Pc.val, c0, c1, c2, c3]; try rfl

set_option maxRecDepth 100000 in
set_option maxHeartbeats 3200000 in
theorem rdec_sum (s : ByteArray) (w : World) (hC : ∀ W, Calls Tryz.prog 111 #[.string s] W fun e w' => e = .returned (.int .i64 0) ∧ W = w') (h2 : s.size = 752) (hU : ∀ W, Calls Tryz.prog 112 #[.string s] W fun e w' => e = .returned (.int .i64 (0 : Nat)) ∧ W = w') (X : ByteArray) (hz : X.size = 94) (hT : ∀ W, Calls Tryz.prog 113 #[.string s] W fun e w' => (∃ v, e = .returned (.tuple #[.string X, v, .int .i64 0])) ∧ Ext W w') (Y : ByteArray) (hS : ∀ W, Calls Tryz.prog 91 #[.string (X.extract 0 84)] W fun e w' => e = .returned (.string Y) ∧ Ext W w') (hne : (Y.toList == (X.extract 84 94).toList) = false) :
    Calls Tryz.prog 92 #[.string s] w fun e w' => e = .returned (.tuple #[zP.val, .int .i64 5]) ∧ Ext w w' := by
  have HB0 : Hid (Blk (w.alloc (.cells #[.int .u32 0, .int .i64 0, .int .i64 0, .string ⟨#[]⟩] 57)) w.heap.size 57 [.int .u32 0, .int .i64 0, .int .i64 0, .string ⟨#[]⟩]) := by show (w.heap.push _)[w.heap.size]? = _; simp
  have hx0 : Ext w (w.alloc (.cells #[.int .u32 0, .int .i64 0, .int .i64 0, .string ⟨#[]⟩] 57)) := (Ext.refl w).alloc _
  have HC := Lib.hid hC
  have HU := Lib.hid hU
  have HT := Lib.hid hT
  have HS := Lib.hid hS
  clear hC hU hT hS
  go_enter Tryz.func92, Tryz.ntmps92
  go_wp2_with fail
  refine (HC.out _).mono ?_
  rintro e w1 ⟨rfl, rfl⟩
  go_wp2_with fail
  refine (HU.out _).mono ?_
  rintro e w1 ⟨rfl, rfl⟩
  go_wp2_with fail
  refine (HT.out _).mono ?_
  rintro e w2 ⟨⟨v, rfl⟩, hx⟩
  have HB2 := Lib.hid (HB0.out.ext hx)
  have hx2 := hx0.trans hx
  clear hx hx0
  go_wp2_with fail
  refine wp_region_grow (by kernel_rfl) (by kernel_rfl) ?_
  repeat
    first
    | (apply grow_is
       case h =>
        intro a w1 hg hs hsl
        clear hs
        try simp at hsl
        try (first | (refine Exists.elim (row_spec hsl) ?_; rintro b ⟨hv, _, hh⟩) | (refine Exists.elim (row_spec hsl.1) ?_; rintro b ⟨hv, _, hh⟩))
        unfold growAt guardOk
        go_simp
        try go_bits
        try simp only [↓IntWalk.iteOmega]
        first
          | exact grow_same
          | exact is_skip
          | exact rfl
          | with_reducible exact grow_call_ext (HS.out _))
  refine grow_fin ?_
  intro w1 hw1
  simp only [List.reverse_cons, List.reverse_nil, List.nil_append, List.cons_append, FinT, Is, forall_eq, List.setIfInBounds_toArray, List.set_cons_succ, List.set_cons_zero]
  have HBZ := Lib.hid (HB2.out.ext hw1)
  obtain ⟨c0, c1, c2, c3, f0, f1, f2, f3⟩ := four HBZ.out
  have hx1 := hx2.trans hw1
  go_wp2_with fail
  generalize hW : (((w1.setCell ⟨w.heap.size, 0, none⟩ (.int .u32 0)).setCell ⟨w.heap.size, 1, none⟩ (.int .i64 0)).setCell ⟨w.heap.size, 2, none⟩ (.int .i64 0)).setCell ⟨w.heap.size, 3, none⟩ (.string ⟨#[]⟩) = W'
  obtain ⟨d0, d1, d2, d3, hxx⟩ := put_four (Nat.le_refl _) HBZ.out hx1 _ _ _ _ W' hW
  clear hW c0 c1 c2 c3 f0 f1 f2 f3
  refine bodyPost_ret (v := .tuple #[zP.val, .int .i64 5]) ?_ rfl ⟨rfl, hxx⟩
  simp [results, Tryz.results92, go_sem, zP, Pc.val, d0, d1, d2, d3]; rfl

set_option maxRecDepth 100000 in
set_option maxHeartbeats 3200000 in
theorem rdec_dig1 (s : ByteArray) (w : World) (hC : ∀ W, Calls Tryz.prog 111 #[.string s] W fun e w' => e = .returned (.int .i64 0) ∧ W = w') (h2 : s.size = 752) (hU : ∀ W, Calls Tryz.prog 112 #[.string s] W fun e w' => e = .returned (.int .i64 (0 : Nat)) ∧ W = w') (X : ByteArray) (hz : X.size = 94) (hT : ∀ W, Calls Tryz.prog 113 #[.string s] W fun e w' => (∃ v, e = .returned (.tuple #[.string X, v, .int .i64 0])) ∧ Ext W w') (Y : ByteArray) (hS : ∀ W, Calls Tryz.prog 91 #[.string (X.extract 0 84)] W fun e w' => e = .returned (.string Y) ∧ Ext W w') (heq : (Y.toList == (X.extract 84 94).toList) = true) (z1 z2 z3 : Int) (hN1 : ∀ W, Calls Tryz.prog 114 #[.string (X.extract 0 10)] W fun e w' => e = .returned (.int .i64 z1) ∧ W = w') (hN2 : ∀ W, Calls Tryz.prog 114 #[.string (X.extract 10 15)] W fun e w' => e = .returned (.int .i64 z2) ∧ W = w') (hN3 : ∀ W, Calls Tryz.prog 114 #[.string (X.extract 15 20)] W fun e w' => e = .returned (.int .i64 z3) ∧ W = w') (h : z1 < 0) :
    Calls Tryz.prog 92 #[.string s] w fun e w' => e = .returned (.tuple #[zP.val, .int .i64 3]) ∧ Ext w w' := by
  have HB0 : Hid (Blk (w.alloc (.cells #[.int .u32 0, .int .i64 0, .int .i64 0, .string ⟨#[]⟩] 57)) w.heap.size 57 [.int .u32 0, .int .i64 0, .int .i64 0, .string ⟨#[]⟩]) := by show (w.heap.push _)[w.heap.size]? = _; simp
  have hx0 : Ext w (w.alloc (.cells #[.int .u32 0, .int .i64 0, .int .i64 0, .string ⟨#[]⟩] 57)) := (Ext.refl w).alloc _
  have HC := Lib.hid hC
  have HU := Lib.hid hU
  have HT := Lib.hid hT
  have HS := Lib.hid hS
  have HN1 := Lib.hid hN1
  have HN2 := Lib.hid hN2
  have HN3 := Lib.hid hN3
  clear hC hU hT hS hN1 hN2 hN3
  go_enter Tryz.func92, Tryz.ntmps92
  go_wp2_with fail
  refine (HC.out _).mono ?_
  rintro e w1 ⟨rfl, rfl⟩
  go_wp2_with fail
  refine (HU.out _).mono ?_
  rintro e w1 ⟨rfl, rfl⟩
  go_wp2_with fail
  refine (HT.out _).mono ?_
  rintro e w2 ⟨⟨v, rfl⟩, hx⟩
  have HB2 := Lib.hid (HB0.out.ext hx)
  have hx2 := hx0.trans hx
  clear hx hx0
  go_wp2_with fail
  refine wp_region_grow (by kernel_rfl) (by kernel_rfl) ?_
  repeat
    first
    | (apply grow_is
       case h =>
        intro a w1 hg hs hsl
        clear hs
        try simp at hsl
        try (first | (refine Exists.elim (row_spec hsl) ?_; rintro b ⟨hv, _, hh⟩) | (refine Exists.elim (row_spec hsl.1) ?_; rintro b ⟨hv, _, hh⟩))
        unfold growAt guardOk
        go_simp
        try go_bits
        try simp only [↓IntWalk.iteOmega]
        first
          | exact grow_same
          | exact is_skip
          | exact rfl
          | with_reducible exact grow_call_ext (HS.out _))
  refine grow_fin ?_
  intro w1 hw1
  simp only [List.reverse_cons, List.reverse_nil, List.nil_append, List.cons_append, FinT, Is, forall_eq, List.setIfInBounds_toArray, List.set_cons_succ, List.set_cons_zero]
  have HB3 := Lib.hid (HB2.out.ext hw1)
  have hx3 := hx2.trans hw1
  clear hw1 hx2
  go_wp2_with fail
  refine wp_region_grow (by kernel_rfl) (by kernel_rfl) ?_
  repeat
    first
    | (apply grow_is
       case h =>
        intro a w1 hg hs hsl
        clear hs
        try simp at hsl
        try (first | (refine Exists.elim (row_spec hsl) ?_; rintro b ⟨hv, _, hh⟩) | (refine Exists.elim (row_spec hsl.1) ?_; rintro b ⟨hv, _, hh⟩))
        unfold growAt guardOk
        go_simp
        try go_bits
        try simp only [↓IntWalk.iteOmega]
        first
          | exact grow_same
          | exact is_skip
          | exact rfl
          | with_reducible exact grow_call_same (HN1.out _)
          | with_reducible exact grow_call_same (HN2.out _)
          | with_reducible exact grow_call_same (HN3.out _))
  refine grow_fin ?_
  intro w1 hw1
  simp only [List.reverse_cons, List.reverse_nil, List.nil_append, List.cons_append, FinT, Is, forall_eq, List.setIfInBounds_toArray, List.set_cons_succ, List.set_cons_zero]
  have HBZ := Lib.hid (HB3.out.ext hw1)
  obtain ⟨c0, c1, c2, c3, f0, f1, f2, f3⟩ := four HBZ.out
  have hx1 := hx3.trans hw1
  go_wp2_with fail
  generalize hW : (((w1.setCell ⟨w.heap.size, 0, none⟩ (.int .u32 0)).setCell ⟨w.heap.size, 1, none⟩ (.int .i64 0)).setCell ⟨w.heap.size, 2, none⟩ (.int .i64 0)).setCell ⟨w.heap.size, 3, none⟩ (.string ⟨#[]⟩) = W'
  obtain ⟨d0, d1, d2, d3, hxx⟩ := put_four (Nat.le_refl _) HBZ.out hx1 _ _ _ _ W' hW
  clear hW c0 c1 c2 c3 f0 f1 f2 f3
  refine bodyPost_ret (v := .tuple #[zP.val, .int .i64 3]) ?_ rfl ⟨rfl, hxx⟩
  simp [results, Tryz.results92, go_sem, zP, Pc.val, d0, d1, d2, d3]; rfl

set_option maxRecDepth 100000 in
set_option maxHeartbeats 3200000 in
theorem rdec_dig2 (s : ByteArray) (w : World) (hC : ∀ W, Calls Tryz.prog 111 #[.string s] W fun e w' => e = .returned (.int .i64 0) ∧ W = w') (h2 : s.size = 752) (hU : ∀ W, Calls Tryz.prog 112 #[.string s] W fun e w' => e = .returned (.int .i64 (0 : Nat)) ∧ W = w') (X : ByteArray) (hz : X.size = 94) (hT : ∀ W, Calls Tryz.prog 113 #[.string s] W fun e w' => (∃ v, e = .returned (.tuple #[.string X, v, .int .i64 0])) ∧ Ext W w') (Y : ByteArray) (hS : ∀ W, Calls Tryz.prog 91 #[.string (X.extract 0 84)] W fun e w' => e = .returned (.string Y) ∧ Ext W w') (heq : (Y.toList == (X.extract 84 94).toList) = true) (z1 z2 z3 : Int) (hN1 : ∀ W, Calls Tryz.prog 114 #[.string (X.extract 0 10)] W fun e w' => e = .returned (.int .i64 z1) ∧ W = w') (hN2 : ∀ W, Calls Tryz.prog 114 #[.string (X.extract 10 15)] W fun e w' => e = .returned (.int .i64 z2) ∧ W = w') (hN3 : ∀ W, Calls Tryz.prog 114 #[.string (X.extract 15 20)] W fun e w' => e = .returned (.int .i64 z3) ∧ W = w') (h0 : 0 ≤ z1) (h : z2 < 0) :
    Calls Tryz.prog 92 #[.string s] w fun e w' => e = .returned (.tuple #[zP.val, .int .i64 3]) ∧ Ext w w' := by
  have HB0 : Hid (Blk (w.alloc (.cells #[.int .u32 0, .int .i64 0, .int .i64 0, .string ⟨#[]⟩] 57)) w.heap.size 57 [.int .u32 0, .int .i64 0, .int .i64 0, .string ⟨#[]⟩]) := by show (w.heap.push _)[w.heap.size]? = _; simp
  have hx0 : Ext w (w.alloc (.cells #[.int .u32 0, .int .i64 0, .int .i64 0, .string ⟨#[]⟩] 57)) := (Ext.refl w).alloc _
  have HC := Lib.hid hC
  have HU := Lib.hid hU
  have HT := Lib.hid hT
  have HS := Lib.hid hS
  have HN1 := Lib.hid hN1
  have HN2 := Lib.hid hN2
  have HN3 := Lib.hid hN3
  clear hC hU hT hS hN1 hN2 hN3
  go_enter Tryz.func92, Tryz.ntmps92
  go_wp2_with fail
  refine (HC.out _).mono ?_
  rintro e w1 ⟨rfl, rfl⟩
  go_wp2_with fail
  refine (HU.out _).mono ?_
  rintro e w1 ⟨rfl, rfl⟩
  go_wp2_with fail
  refine (HT.out _).mono ?_
  rintro e w2 ⟨⟨v, rfl⟩, hx⟩
  have HB2 := Lib.hid (HB0.out.ext hx)
  have hx2 := hx0.trans hx
  clear hx hx0
  go_wp2_with fail
  refine wp_region_grow (by kernel_rfl) (by kernel_rfl) ?_
  repeat
    first
    | (apply grow_is
       case h =>
        intro a w1 hg hs hsl
        clear hs
        try simp at hsl
        try (first | (refine Exists.elim (row_spec hsl) ?_; rintro b ⟨hv, _, hh⟩) | (refine Exists.elim (row_spec hsl.1) ?_; rintro b ⟨hv, _, hh⟩))
        unfold growAt guardOk
        go_simp
        try go_bits
        try simp only [↓IntWalk.iteOmega]
        first
          | exact grow_same
          | exact is_skip
          | exact rfl
          | with_reducible exact grow_call_ext (HS.out _))
  refine grow_fin ?_
  intro w1 hw1
  simp only [List.reverse_cons, List.reverse_nil, List.nil_append, List.cons_append, FinT, Is, forall_eq, List.setIfInBounds_toArray, List.set_cons_succ, List.set_cons_zero]
  have HB3 := Lib.hid (HB2.out.ext hw1)
  have hx3 := hx2.trans hw1
  clear hw1 hx2
  go_wp2_with fail
  refine wp_region_grow (by kernel_rfl) (by kernel_rfl) ?_
  repeat
    first
    | (apply grow_is
       case h =>
        intro a w1 hg hs hsl
        clear hs
        try simp at hsl
        try (first | (refine Exists.elim (row_spec hsl) ?_; rintro b ⟨hv, _, hh⟩) | (refine Exists.elim (row_spec hsl.1) ?_; rintro b ⟨hv, _, hh⟩))
        unfold growAt guardOk
        go_simp
        try go_bits
        try simp only [↓IntWalk.iteOmega]
        first
          | exact grow_same
          | exact is_skip
          | exact rfl
          | with_reducible exact grow_call_same (HN1.out _)
          | with_reducible exact grow_call_same (HN2.out _)
          | with_reducible exact grow_call_same (HN3.out _))
  refine grow_fin ?_
  intro w1 hw1
  simp only [List.reverse_cons, List.reverse_nil, List.nil_append, List.cons_append, FinT, Is, forall_eq, List.setIfInBounds_toArray, List.set_cons_succ, List.set_cons_zero]
  have HBZ := Lib.hid (HB3.out.ext hw1)
  obtain ⟨c0, c1, c2, c3, f0, f1, f2, f3⟩ := four HBZ.out
  have hx1 := hx3.trans hw1
  go_wp2_with fail
  generalize hW : (((w1.setCell ⟨w.heap.size, 0, none⟩ (.int .u32 0)).setCell ⟨w.heap.size, 1, none⟩ (.int .i64 0)).setCell ⟨w.heap.size, 2, none⟩ (.int .i64 0)).setCell ⟨w.heap.size, 3, none⟩ (.string ⟨#[]⟩) = W'
  obtain ⟨d0, d1, d2, d3, hxx⟩ := put_four (Nat.le_refl _) HBZ.out hx1 _ _ _ _ W' hW
  clear hW c0 c1 c2 c3 f0 f1 f2 f3
  refine bodyPost_ret (v := .tuple #[zP.val, .int .i64 3]) ?_ rfl ⟨rfl, hxx⟩
  simp [results, Tryz.results92, go_sem, zP, Pc.val, d0, d1, d2, d3]; rfl

set_option maxRecDepth 100000 in
set_option maxHeartbeats 3200000 in
theorem rdec_dig3 (s : ByteArray) (w : World) (hC : ∀ W, Calls Tryz.prog 111 #[.string s] W fun e w' => e = .returned (.int .i64 0) ∧ W = w') (h2 : s.size = 752) (hU : ∀ W, Calls Tryz.prog 112 #[.string s] W fun e w' => e = .returned (.int .i64 (0 : Nat)) ∧ W = w') (X : ByteArray) (hz : X.size = 94) (hT : ∀ W, Calls Tryz.prog 113 #[.string s] W fun e w' => (∃ v, e = .returned (.tuple #[.string X, v, .int .i64 0])) ∧ Ext W w') (Y : ByteArray) (hS : ∀ W, Calls Tryz.prog 91 #[.string (X.extract 0 84)] W fun e w' => e = .returned (.string Y) ∧ Ext W w') (heq : (Y.toList == (X.extract 84 94).toList) = true) (z1 z2 z3 : Int) (hN1 : ∀ W, Calls Tryz.prog 114 #[.string (X.extract 0 10)] W fun e w' => e = .returned (.int .i64 z1) ∧ W = w') (hN2 : ∀ W, Calls Tryz.prog 114 #[.string (X.extract 10 15)] W fun e w' => e = .returned (.int .i64 z2) ∧ W = w') (hN3 : ∀ W, Calls Tryz.prog 114 #[.string (X.extract 15 20)] W fun e w' => e = .returned (.int .i64 z3) ∧ W = w') (h0 : 0 ≤ z1) (h1 : 0 ≤ z2) (h : z3 < 0) :
    Calls Tryz.prog 92 #[.string s] w fun e w' => e = .returned (.tuple #[zP.val, .int .i64 3]) ∧ Ext w w' := by
  have HB0 : Hid (Blk (w.alloc (.cells #[.int .u32 0, .int .i64 0, .int .i64 0, .string ⟨#[]⟩] 57)) w.heap.size 57 [.int .u32 0, .int .i64 0, .int .i64 0, .string ⟨#[]⟩]) := by show (w.heap.push _)[w.heap.size]? = _; simp
  have hx0 : Ext w (w.alloc (.cells #[.int .u32 0, .int .i64 0, .int .i64 0, .string ⟨#[]⟩] 57)) := (Ext.refl w).alloc _
  have HC := Lib.hid hC
  have HU := Lib.hid hU
  have HT := Lib.hid hT
  have HS := Lib.hid hS
  have HN1 := Lib.hid hN1
  have HN2 := Lib.hid hN2
  have HN3 := Lib.hid hN3
  clear hC hU hT hS hN1 hN2 hN3
  go_enter Tryz.func92, Tryz.ntmps92
  go_wp2_with fail
  refine (HC.out _).mono ?_
  rintro e w1 ⟨rfl, rfl⟩
  go_wp2_with fail
  refine (HU.out _).mono ?_
  rintro e w1 ⟨rfl, rfl⟩
  go_wp2_with fail
  refine (HT.out _).mono ?_
  rintro e w2 ⟨⟨v, rfl⟩, hx⟩
  have HB2 := Lib.hid (HB0.out.ext hx)
  have hx2 := hx0.trans hx
  clear hx hx0
  go_wp2_with fail
  refine wp_region_grow (by kernel_rfl) (by kernel_rfl) ?_
  repeat
    first
    | (apply grow_is
       case h =>
        intro a w1 hg hs hsl
        clear hs
        try simp at hsl
        try (first | (refine Exists.elim (row_spec hsl) ?_; rintro b ⟨hv, _, hh⟩) | (refine Exists.elim (row_spec hsl.1) ?_; rintro b ⟨hv, _, hh⟩))
        unfold growAt guardOk
        go_simp
        try go_bits
        try simp only [↓IntWalk.iteOmega]
        first
          | exact grow_same
          | exact is_skip
          | exact rfl
          | with_reducible exact grow_call_ext (HS.out _))
  refine grow_fin ?_
  intro w1 hw1
  simp only [List.reverse_cons, List.reverse_nil, List.nil_append, List.cons_append, FinT, Is, forall_eq, List.setIfInBounds_toArray, List.set_cons_succ, List.set_cons_zero]
  have HB3 := Lib.hid (HB2.out.ext hw1)
  have hx3 := hx2.trans hw1
  clear hw1 hx2
  go_wp2_with fail
  refine wp_region_grow (by kernel_rfl) (by kernel_rfl) ?_
  repeat
    first
    | (apply grow_is
       case h =>
        intro a w1 hg hs hsl
        clear hs
        try simp at hsl
        try (first | (refine Exists.elim (row_spec hsl) ?_; rintro b ⟨hv, _, hh⟩) | (refine Exists.elim (row_spec hsl.1) ?_; rintro b ⟨hv, _, hh⟩))
        unfold growAt guardOk
        go_simp
        try go_bits
        try simp only [↓IntWalk.iteOmega]
        first
          | exact grow_same
          | exact is_skip
          | exact rfl
          | with_reducible exact grow_call_same (HN1.out _)
          | with_reducible exact grow_call_same (HN2.out _)
          | with_reducible exact grow_call_same (HN3.out _))
  refine grow_fin ?_
  intro w1 hw1
  simp only [List.reverse_cons, List.reverse_nil, List.nil_append, List.cons_append, FinT, Is, forall_eq, List.setIfInBounds_toArray, List.set_cons_succ, List.set_cons_zero]
  have HBZ := Lib.hid (HB3.out.ext hw1)
  obtain ⟨c0, c1, c2, c3, f0, f1, f2, f3⟩ := four HBZ.out
  have hx1 := hx3.trans hw1
  go_wp2_with fail
  generalize hW : (((w1.setCell ⟨w.heap.size, 0, none⟩ (.int .u32 0)).setCell ⟨w.heap.size, 1, none⟩ (.int .i64 0)).setCell ⟨w.heap.size, 2, none⟩ (.int .i64 0)).setCell ⟨w.heap.size, 3, none⟩ (.string ⟨#[]⟩) = W'
  obtain ⟨d0, d1, d2, d3, hxx⟩ := put_four (Nat.le_refl _) HBZ.out hx1 _ _ _ _ W' hW
  clear hW c0 c1 c2 c3 f0 f1 f2 f3
  refine bodyPost_ret (v := .tuple #[zP.val, .int .i64 3]) ?_ rfl ⟨rfl, hxx⟩
  simp [results, Tryz.results92, go_sem, zP, Pc.val, d0, d1, d2, d3]; rfl

set_option maxRecDepth 100000 in
set_option maxHeartbeats 3200000 in
theorem rdec_range (s : ByteArray) (w : World) (hC : ∀ W, Calls Tryz.prog 111 #[.string s] W fun e w' => e = .returned (.int .i64 0) ∧ W = w') (h2 : s.size = 752) (hU : ∀ W, Calls Tryz.prog 112 #[.string s] W fun e w' => e = .returned (.int .i64 (0 : Nat)) ∧ W = w') (X : ByteArray) (hz : X.size = 94) (hT : ∀ W, Calls Tryz.prog 113 #[.string s] W fun e w' => (∃ v, e = .returned (.tuple #[.string X, v, .int .i64 0])) ∧ Ext W w') (Y : ByteArray) (hS : ∀ W, Calls Tryz.prog 91 #[.string (X.extract 0 84)] W fun e w' => e = .returned (.string Y) ∧ Ext W w') (heq : (Y.toList == (X.extract 84 94).toList) = true) (n1 n2 n3 : Nat) (hN1 : ∀ W, Calls Tryz.prog 114 #[.string (X.extract 0 10)] W fun e w' => e = .returned (.int .i64 n1) ∧ W = w') (hN2 : ∀ W, Calls Tryz.prog 114 #[.string (X.extract 10 15)] W fun e w' => e = .returned (.int .i64 n2) ∧ W = w') (hN3 : ∀ W, Calls Tryz.prog 114 #[.string (X.extract 15 20)] W fun e w' => e = .returned (.int .i64 n3) ∧ W = w') (h : 4294967295 < n1) :
    Calls Tryz.prog 92 #[.string s] w fun e w' => e = .returned (.tuple #[zP.val, .int .i64 2]) ∧ Ext w w' := by
  have HB0 : Hid (Blk (w.alloc (.cells #[.int .u32 0, .int .i64 0, .int .i64 0, .string ⟨#[]⟩] 57)) w.heap.size 57 [.int .u32 0, .int .i64 0, .int .i64 0, .string ⟨#[]⟩]) := by show (w.heap.push _)[w.heap.size]? = _; simp
  have hx0 : Ext w (w.alloc (.cells #[.int .u32 0, .int .i64 0, .int .i64 0, .string ⟨#[]⟩] 57)) := (Ext.refl w).alloc _
  have HC := Lib.hid hC
  have HU := Lib.hid hU
  have HT := Lib.hid hT
  have HS := Lib.hid hS
  have HN1 := Lib.hid hN1
  have HN2 := Lib.hid hN2
  have HN3 := Lib.hid hN3
  clear hC hU hT hS hN1 hN2 hN3
  go_enter Tryz.func92, Tryz.ntmps92
  go_wp2_with fail
  refine (HC.out _).mono ?_
  rintro e w1 ⟨rfl, rfl⟩
  go_wp2_with fail
  refine (HU.out _).mono ?_
  rintro e w1 ⟨rfl, rfl⟩
  go_wp2_with fail
  refine (HT.out _).mono ?_
  rintro e w2 ⟨⟨v, rfl⟩, hx⟩
  have HB2 := Lib.hid (HB0.out.ext hx)
  have hx2 := hx0.trans hx
  clear hx hx0
  go_wp2_with fail
  refine wp_region_grow (by kernel_rfl) (by kernel_rfl) ?_
  repeat
    first
    | (apply grow_is
       case h =>
        intro a w1 hg hs hsl
        clear hs
        try simp at hsl
        try (first | (refine Exists.elim (row_spec hsl) ?_; rintro b ⟨hv, _, hh⟩) | (refine Exists.elim (row_spec hsl.1) ?_; rintro b ⟨hv, _, hh⟩))
        unfold growAt guardOk
        go_simp
        try go_bits
        try simp only [↓IntWalk.iteOmega]
        first
          | exact grow_same
          | exact is_skip
          | exact rfl
          | with_reducible exact grow_call_ext (HS.out _))
  refine grow_fin ?_
  intro w1 hw1
  simp only [List.reverse_cons, List.reverse_nil, List.nil_append, List.cons_append, FinT, Is, forall_eq, List.setIfInBounds_toArray, List.set_cons_succ, List.set_cons_zero]
  have HB3 := Lib.hid (HB2.out.ext hw1)
  have hx3 := hx2.trans hw1
  clear hw1 hx2
  go_wp2_with fail
  refine wp_region_grow (by kernel_rfl) (by kernel_rfl) ?_
  repeat
    first
    | (apply grow_is
       case h =>
        intro a w1 hg hs hsl
        clear hs
        try simp at hsl
        try (first | (refine Exists.elim (row_spec hsl) ?_; rintro b ⟨hv, _, hh⟩) | (refine Exists.elim (row_spec hsl.1) ?_; rintro b ⟨hv, _, hh⟩))
        unfold growAt guardOk
        go_simp
        try go_bits
        try simp only [↓IntWalk.iteOmega]
        first
          | exact grow_same
          | exact is_skip
          | exact rfl
          | with_reducible exact grow_call_same (HN1.out _)
          | with_reducible exact grow_call_same (HN2.out _)
          | with_reducible exact grow_call_same (HN3.out _))
  refine grow_fin ?_
  intro w1 hw1
  simp only [List.reverse_cons, List.reverse_nil, List.nil_append, List.cons_append, FinT, Is, forall_eq, List.setIfInBounds_toArray, List.set_cons_succ, List.set_cons_zero]
  have HBZ := Lib.hid (HB3.out.ext hw1)
  obtain ⟨c0, c1, c2, c3, f0, f1, f2, f3⟩ := four HBZ.out
  have hx1 := hx3.trans hw1
  go_wp2_with fail
  generalize hW : (((w1.setCell ⟨w.heap.size, 0, none⟩ (.int .u32 0)).setCell ⟨w.heap.size, 1, none⟩ (.int .i64 0)).setCell ⟨w.heap.size, 2, none⟩ (.int .i64 0)).setCell ⟨w.heap.size, 3, none⟩ (.string ⟨#[]⟩) = W'
  obtain ⟨d0, d1, d2, d3, hxx⟩ := put_four (Nat.le_refl _) HBZ.out hx1 _ _ _ _ W' hW
  clear hW c0 c1 c2 c3 f0 f1 f2 f3
  refine bodyPost_ret (v := .tuple #[zP.val, .int .i64 2]) ?_ rfl ⟨rfl, hxx⟩
  simp [results, Tryz.results92, go_sem, zP, Pc.val, d0, d1, d2, d3]; rfl

set_option maxRecDepth 100000 in
set_option maxHeartbeats 3200000 in
theorem rdec_bad (s : ByteArray) (w : World) (hC : ∀ W, Calls Tryz.prog 111 #[.string s] W fun e w' => e = .returned (.int .i64 0) ∧ W = w') (h2 : s.size = 752) (hU : ∀ W, Calls Tryz.prog 112 #[.string s] W fun e w' => e = .returned (.int .i64 (0 : Nat)) ∧ W = w') (X : ByteArray) (hz : X.size = 94) (hT : ∀ W, Calls Tryz.prog 113 #[.string s] W fun e w' => (∃ v, e = .returned (.tuple #[.string X, v, .int .i64 0])) ∧ Ext W w') (Y : ByteArray) (hS : ∀ W, Calls Tryz.prog 91 #[.string (X.extract 0 84)] W fun e w' => e = .returned (.string Y) ∧ Ext W w') (heq : (Y.toList == (X.extract 84 94).toList) = true) (n1 n2 n3 : Nat) (hN1 : ∀ W, Calls Tryz.prog 114 #[.string (X.extract 0 10)] W fun e w' => e = .returned (.int .i64 n1) ∧ W = w') (hN2 : ∀ W, Calls Tryz.prog 114 #[.string (X.extract 10 15)] W fun e w' => e = .returned (.int .i64 n2) ∧ W = w') (hN3 : ∀ W, Calls Tryz.prog 114 #[.string (X.extract 15 20)] W fun e w' => e = .returned (.int .i64 n3) ∧ W = w') (hn1 : n1 ≤ 4294967295) (hn2 : n2 ≤ 99999) (hn3 : n3 ≤ 99999) (E : Int) (hK : ∀ W, Calls Tryz.prog 58 #[.agg #[.int .u32 n1, .int .i64 n2, .int .i64 n3, .string (X.extract 20 84)]] W fun e w' => e = .returned (.int .i64 E) ∧ Ext W w') (hE0 : (E == 0) = false) :
    Calls Tryz.prog 92 #[.string s] w fun e w' => e = .returned (.tuple #[zP.val, .int .i64 E]) ∧ Ext w w' := by
  have HB0 : Hid (Blk (w.alloc (.cells #[.int .u32 0, .int .i64 0, .int .i64 0, .string ⟨#[]⟩] 57)) w.heap.size 57 [.int .u32 0, .int .i64 0, .int .i64 0, .string ⟨#[]⟩]) := by show (w.heap.push _)[w.heap.size]? = _; simp
  have hx0 : Ext w (w.alloc (.cells #[.int .u32 0, .int .i64 0, .int .i64 0, .string ⟨#[]⟩] 57)) := (Ext.refl w).alloc _
  have HC := Lib.hid hC
  have HU := Lib.hid hU
  have HT := Lib.hid hT
  have HS := Lib.hid hS
  have HN1 := Lib.hid hN1
  have HN2 := Lib.hid hN2
  have HN3 := Lib.hid hN3
  have HK := Lib.hid hK
  clear hC hU hT hS hN1 hN2 hN3 hK
  go_enter Tryz.func92, Tryz.ntmps92
  go_wp2_with fail
  refine (HC.out _).mono ?_
  rintro e w1 ⟨rfl, rfl⟩
  go_wp2_with fail
  refine (HU.out _).mono ?_
  rintro e w1 ⟨rfl, rfl⟩
  go_wp2_with fail
  refine (HT.out _).mono ?_
  rintro e w2 ⟨⟨v, rfl⟩, hx⟩
  have HB2 := Lib.hid (HB0.out.ext hx)
  have hx2 := hx0.trans hx
  clear hx hx0
  go_wp2_with fail
  refine wp_region_grow (by kernel_rfl) (by kernel_rfl) ?_
  repeat
    first
    | (apply grow_is
       case h =>
        intro a w1 hg hs hsl
        clear hs
        try simp at hsl
        try (first | (refine Exists.elim (row_spec hsl) ?_; rintro b ⟨hv, _, hh⟩) | (refine Exists.elim (row_spec hsl.1) ?_; rintro b ⟨hv, _, hh⟩))
        unfold growAt guardOk
        go_simp
        try go_bits
        try simp only [↓IntWalk.iteOmega]
        first
          | exact grow_same
          | exact is_skip
          | exact rfl
          | with_reducible exact grow_call_ext (HS.out _))
  refine grow_fin ?_
  intro w1 hw1
  simp only [List.reverse_cons, List.reverse_nil, List.nil_append, List.cons_append, FinT, Is, forall_eq, List.setIfInBounds_toArray, List.set_cons_succ, List.set_cons_zero]
  have HB3 := Lib.hid (HB2.out.ext hw1)
  have hx3 := hx2.trans hw1
  clear hw1 hx2
  go_wp2_with fail
  refine wp_region_grow (by kernel_rfl) (by kernel_rfl) ?_
  repeat
    first
    | (apply grow_is
       case h =>
        intro a w1 hg hs hsl
        clear hs
        try simp at hsl
        try (first | (refine Exists.elim (row_spec hsl) ?_; rintro b ⟨hv, _, hh⟩) | (refine Exists.elim (row_spec hsl.1) ?_; rintro b ⟨hv, _, hh⟩))
        unfold growAt guardOk
        go_simp
        try go_bits
        try simp only [↓IntWalk.iteOmega]
        first
          | exact grow_same
          | exact is_skip
          | exact rfl
          | with_reducible exact grow_call_same (HN1.out _)
          | with_reducible exact grow_call_same (HN2.out _)
          | with_reducible exact grow_call_same (HN3.out _))
  refine grow_fin ?_
  intro w1 hw1
  simp only [List.reverse_cons, List.reverse_nil, List.nil_append, List.cons_append, FinT, Is, forall_eq, List.setIfInBounds_toArray, List.set_cons_succ, List.set_cons_zero]
  have HB4 := Lib.hid (HB3.out.ext hw1)
  have hx4 := hx3.trans hw1
  clear hx3 hw1
  go_wp2_with fail
  refine (HK.out _).mono ?_
  rintro e w6 ⟨rfl, hx⟩
  have hb6 : Blk (w1.alloc (.cells #[.int .u32 n1, .int .i64 n2, .int .i64 n3, .string (X.extract 20 84)] 57)) w1.heap.size 57 [.int .u32 n1, .int .i64 n2, .int .i64 n3, .string (X.extract 20 84)] := by show (w1.heap.push _)[w1.heap.size]? = _; simp
  obtain ⟨p0, p1, p2, p3, -⟩ := four (hb6.ext hx)
  have HBZ := Lib.hid ((HB4.out.alloc (.cells #[.int .u32 n1, .int .i64 n2, .int .i64 n3, .string (X.extract 20 84)] 57)).ext hx)
  obtain ⟨c0, c1, c2, c3, f0, f1, f2, f3⟩ := four HBZ.out
  have hx1 := (hx4.alloc (.cells #[.int .u32 n1, .int .i64 n2, .int .i64 n3, .string (X.extract 20 84)] 57)).trans hx
  clear hx hx4 hb6
  go_wp2_with fail
  generalize hW : (((w6.setCell ⟨w.heap.size, 0, none⟩ (.int .u32 0)).setCell ⟨w.heap.size, 1, none⟩ (.int .i64 0)).setCell ⟨w.heap.size, 2, none⟩ (.int .i64 0)).setCell ⟨w.heap.size, 3, none⟩ (.string ⟨#[]⟩) = W'
  obtain ⟨d0, d1, d2, d3, hxx⟩ := put_four (Nat.le_refl _) HBZ.out hx1 _ _ _ _ W' hW
  clear hW c0 c1 c2 c3 f0 f1 f2 f3
  refine bodyPost_ret (v := .tuple #[zP.val, .int .i64 E]) ?_ rfl ⟨rfl, hxx⟩
  simp [results, Tryz.results92, go_sem, zP, Pc.val, d0, d1, d2, d3]; rfl

set_option maxRecDepth 100000 in
set_option maxHeartbeats 3200000 in
theorem rdec_good (s : ByteArray) (w : World) (hC : ∀ W, Calls Tryz.prog 111 #[.string s] W fun e w' => e = .returned (.int .i64 0) ∧ W = w') (h2 : s.size = 752) (hU : ∀ W, Calls Tryz.prog 112 #[.string s] W fun e w' => e = .returned (.int .i64 (0 : Nat)) ∧ W = w') (X : ByteArray) (hz : X.size = 94) (hT : ∀ W, Calls Tryz.prog 113 #[.string s] W fun e w' => (∃ v, e = .returned (.tuple #[.string X, v, .int .i64 0])) ∧ Ext W w') (Y : ByteArray) (hS : ∀ W, Calls Tryz.prog 91 #[.string (X.extract 0 84)] W fun e w' => e = .returned (.string Y) ∧ Ext W w') (heq : (Y.toList == (X.extract 84 94).toList) = true) (n1 n2 n3 : Nat) (hN1 : ∀ W, Calls Tryz.prog 114 #[.string (X.extract 0 10)] W fun e w' => e = .returned (.int .i64 n1) ∧ W = w') (hN2 : ∀ W, Calls Tryz.prog 114 #[.string (X.extract 10 15)] W fun e w' => e = .returned (.int .i64 n2) ∧ W = w') (hN3 : ∀ W, Calls Tryz.prog 114 #[.string (X.extract 15 20)] W fun e w' => e = .returned (.int .i64 n3) ∧ W = w') (hn1 : n1 ≤ 4294967295) (hn2 : n2 ≤ 99999) (hn3 : n3 ≤ 99999) (hK : ∀ W, Calls Tryz.prog 58 #[.agg #[.int .u32 n1, .int .i64 n2, .int .i64 n3, .string (X.extract 20 84)]] W fun e w' => e = .returned (.int .i64 0) ∧ Ext W w') :
    Calls Tryz.prog 92 #[.string s] w fun e w' => e = .returned (.tuple #[.agg #[.int .u32 n1, .int .i64 n2, .int .i64 n3, .string (X.extract 20 84)], .int .i64 0]) ∧ Ext w w' := by
  have HB0 : Hid (Blk (w.alloc (.cells #[.int .u32 0, .int .i64 0, .int .i64 0, .string ⟨#[]⟩] 57)) w.heap.size 57 [.int .u32 0, .int .i64 0, .int .i64 0, .string ⟨#[]⟩]) := by show (w.heap.push _)[w.heap.size]? = _; simp
  have hx0 : Ext w (w.alloc (.cells #[.int .u32 0, .int .i64 0, .int .i64 0, .string ⟨#[]⟩] 57)) := (Ext.refl w).alloc _
  have HC := Lib.hid hC
  have HU := Lib.hid hU
  have HT := Lib.hid hT
  have HS := Lib.hid hS
  have HN1 := Lib.hid hN1
  have HN2 := Lib.hid hN2
  have HN3 := Lib.hid hN3
  have HK := Lib.hid hK
  clear hC hU hT hS hN1 hN2 hN3 hK
  go_enter Tryz.func92, Tryz.ntmps92
  go_wp2_with fail
  refine (HC.out _).mono ?_
  rintro e w1 ⟨rfl, rfl⟩
  go_wp2_with fail
  refine (HU.out _).mono ?_
  rintro e w1 ⟨rfl, rfl⟩
  go_wp2_with fail
  refine (HT.out _).mono ?_
  rintro e w2 ⟨⟨v, rfl⟩, hx⟩
  have HB2 := Lib.hid (HB0.out.ext hx)
  have hx2 := hx0.trans hx
  clear hx hx0
  go_wp2_with fail
  refine wp_region_grow (by kernel_rfl) (by kernel_rfl) ?_
  repeat
    first
    | (apply grow_is
       case h =>
        intro a w1 hg hs hsl
        clear hs
        try simp at hsl
        try (first | (refine Exists.elim (row_spec hsl) ?_; rintro b ⟨hv, _, hh⟩) | (refine Exists.elim (row_spec hsl.1) ?_; rintro b ⟨hv, _, hh⟩))
        unfold growAt guardOk
        go_simp
        try go_bits
        try simp only [↓IntWalk.iteOmega]
        first
          | exact grow_same
          | exact is_skip
          | exact rfl
          | with_reducible exact grow_call_ext (HS.out _))
  refine grow_fin ?_
  intro w1 hw1
  simp only [List.reverse_cons, List.reverse_nil, List.nil_append, List.cons_append, FinT, Is, forall_eq, List.setIfInBounds_toArray, List.set_cons_succ, List.set_cons_zero]
  have HB3 := Lib.hid (HB2.out.ext hw1)
  have hx3 := hx2.trans hw1
  clear hw1 hx2
  go_wp2_with fail
  refine wp_region_grow (by kernel_rfl) (by kernel_rfl) ?_
  repeat
    first
    | (apply grow_is
       case h =>
        intro a w1 hg hs hsl
        clear hs
        try simp at hsl
        try (first | (refine Exists.elim (row_spec hsl) ?_; rintro b ⟨hv, _, hh⟩) | (refine Exists.elim (row_spec hsl.1) ?_; rintro b ⟨hv, _, hh⟩))
        unfold growAt guardOk
        go_simp
        try go_bits
        try simp only [↓IntWalk.iteOmega]
        first
          | exact grow_same
          | exact is_skip
          | exact rfl
          | with_reducible exact grow_call_same (HN1.out _)
          | with_reducible exact grow_call_same (HN2.out _)
          | with_reducible exact grow_call_same (HN3.out _))
  refine grow_fin ?_
  intro w1 hw1
  simp only [List.reverse_cons, List.reverse_nil, List.nil_append, List.cons_append, FinT, Is, forall_eq, List.setIfInBounds_toArray, List.set_cons_succ, List.set_cons_zero]
  have HB4 := Lib.hid (HB3.out.ext hw1)
  have hx4 := hx3.trans hw1
  clear hx3 hw1
  go_wp2_with fail
  refine (HK.out _).mono ?_
  rintro e w6 ⟨rfl, hx⟩
  have hb6 : Blk (w1.alloc (.cells #[.int .u32 n1, .int .i64 n2, .int .i64 n3, .string (X.extract 20 84)] 57)) w1.heap.size 57 [.int .u32 n1, .int .i64 n2, .int .i64 n3, .string (X.extract 20 84)] := by show (w1.heap.push _)[w1.heap.size]? = _; simp
  obtain ⟨p0, p1, p2, p3, -⟩ := four (hb6.ext hx)
  have HBZ := Lib.hid ((HB4.out.alloc (.cells #[.int .u32 n1, .int .i64 n2, .int .i64 n3, .string (X.extract 20 84)] 57)).ext hx)
  obtain ⟨c0, c1, c2, c3, f0, f1, f2, f3⟩ := four HBZ.out
  have hx1 := (hx4.alloc (.cells #[.int .u32 n1, .int .i64 n2, .int .i64 n3, .string (X.extract 20 84)] 57)).trans hx
  clear hx hx4 hb6
  go_wp2_with fail
  generalize hW : (((w6.setCell ⟨w.heap.size, 0, none⟩ (.int .u32 n1)).setCell ⟨w.heap.size, 1, none⟩ (.int .i64 n2)).setCell ⟨w.heap.size, 2, none⟩ (.int .i64 n3)).setCell ⟨w.heap.size, 3, none⟩ (.string (X.extract 20 84)) = W'
  obtain ⟨d0, d1, d2, d3, hxx⟩ := put_four (Nat.le_refl _) HBZ.out hx1 _ _ _ _ W' hW
  clear hW c0 c1 c2 c3 f0 f1 f2 f3
  refine bodyPost_ret (v := .tuple #[.agg #[.int .u32 n1, .int .i64 n2, .int .i64 n3, .string (X.extract 20 84)], .int .i64 0]) ?_ rfl ⟨rfl, hxx⟩
  simp [results, Tryz.results92, go_sem, d0, d1, d2, d3]

theorem rdecode_any (s : ByteArray) (w : World) (hs : s.size ≤ maxLen) :
    Calls Tryz.prog 92 #[.string s] w fun e w' => e = .returned (.tuple #[(decodeA s.data.toList).1.val, .int .i64 (decodeA s.data.toList).2]) ∧ Ext w w' := by
  have hC := fun W => rccheck_any s W hs
  have hs' := hs
  unfold maxLen at hs
  unfold chkC at hC
  unfold decodeA
  by_cases h1 : cellsOk s.data.toList = true
  rotate_left
  · rw [if_neg h1] at hC
    rw [Bool.not_eq_true] at h1
    rw [if_pos h1]
    exact rdec_syntax s w hC
  rw [if_pos h1] at hC
  rw [if_neg (by rw [h1]; decide)]
  by_cases h2 : s.size = 752
  rotate_left
  · rw [if_pos (show s.data.toList.length ≠ 752 from h2)]
    exact rdec_short s w hC (by omega)
  rw [if_neg (show ¬ s.data.toList.length ≠ 752 from fun h => h h2)]
  have hU := fun W => runread_any s W hs'
  by_cases h3 : s.data.toList.contains 63 = true
  · rw [if_pos h3]
    exact rdec_open s w hC h2 _ ((count_pos s.data.toList).2 h3) hU
  rw [if_neg h3]
  have hk0 : Lib.countByte s.data.toList 63 = 0 := Nat.eq_zero_of_not_pos (fun h => h3 ((count_pos _).1 h))
  rw [hk0] at hU
  have hT := fun W => rtoBytes_any s W (by omega) h1 (Bool.eq_false_iff.2 h3) 94 (by omega)
  have htl : (bytesC s.data.toList).length = 94 := by rw [bytesC_len]; show s.size / 8 = 94; omega
  generalize bytesC s.data.toList = t at *
  have hz : (BA t).size = 94 := htl
  have e84 : (BA t).extract 0 84 = BA (t.take 84) := by rw [ext_take t 0 84 (by omega)]; rfl
  have e94 : (BA t).extract 84 94 = BA (t.drop 84) := by rw [ext_take t 84 94 (by omega), List.take_of_length_le (by rw [List.length_drop]; omega)]
  have hS := fun W => rseal_any (t.take 84) W (by rw [List.length_take]; omega)
  rw [← e84] at hS
  unfold textA
  by_cases h4 : t.drop 84 = lowD 10 (crcS (t.take 84))
  rotate_left
  · rw [if_neg h4]
    refine rdec_sum s w hC h2 hU (BA t) hz hT _ hS ?_
    rw [beq_eq_false_iff_ne, ByteArray.toList_eq, ByteArray.toList_eq, e94]
    intro e
    apply h4
    have e : lowD 10 (crcS (t.take 84)) = t.drop 84 := e
    exact e.symm
  rw [if_pos h4]
  have heq : ((BA (lowD 10 (crcS (t.take 84)))).toList == ((BA t).extract 84 94).toList) = true := by rw [e94, h4]; exact beq_self_eq_true _
  have e1 : (BA t).extract 0 10 = BA (t.take 10) := by rw [ext_take t 0 10 (by omega)]; rfl
  have e2 : (BA t).extract 10 15 = BA ((t.drop 10).take 5) := ext_take t 10 15 (by omega)
  have e3 : (BA t).extract 15 20 = BA ((t.drop 15).take 5) := ext_take t 15 20 (by omega)
  have e4 : (BA t).extract 20 84 = BA ((t.drop 20).take 64) := ext_take t 20 84 (by omega)
  have z1 : (t.take 10).length = 10 := by rw [List.length_take]; omega
  have z2 : ((t.drop 10).take 5).length = 5 := by rw [List.length_take, List.length_drop]; omega
  have z3 : ((t.drop 15).take 5).length = 5 := by rw [List.length_take, List.length_drop]; omega
  have z4 : ((t.drop 20).take 64).length = 64 := by rw [List.length_take, List.length_drop]; omega
  have hP1 := fun W => rnumber_any (BA (t.take 10)) W (by rw [BA_size]; omega)
  have hP2 := fun W => rnumber_any (BA ((t.drop 10).take 5)) W (by rw [BA_size]; omega)
  have hP3 := fun W => rnumber_any (BA ((t.drop 15).take 5)) W (by rw [BA_size]; omega)
  have hK := fun (n1 n2 n3 : Nat) W => rpcheck_any (n1 : Int) (n2 : Int) (n3 : Int) (BA ((t.drop 20).take 64)) W (by rw [BA_size]; unfold maxLen; omega)
  rw [BA_data] at hP1 hP2 hP3
  rw [← e1] at hP1
  rw [← e2] at hP2
  rw [← e3] at hP3
  rw [← e4] at hK
  have hdd : digB (t.take 20) = (digB (t.take 10) && digB ((t.drop 10).take 5) && digB ((t.drop 15).take 5)) := by
    have : t.take 20 = t.take 10 ++ ((t.drop 10).take 5 ++ (t.drop 15).take 5) := by
      rw [show (20 : Nat) = 10 + 10 from rfl, List.take_add, show (t.drop 10).take 10 = (t.drop 10).take (5 + 5) from rfl, List.take_add, List.drop_drop]
    rw [this, digB_append, digB_append, Bool.and_assoc]
  unfold fieldsA
  rw [hdd]
  unfold numZ at hP1 hP2 hP3
  by_cases d1 : digB (t.take 10) = true
  rotate_left
  · rw [if_neg d1] at hP1
    rw [Bool.not_eq_true] at d1
    rw [d1, Bool.false_and, Bool.false_and, if_pos rfl]
    exact rdec_dig1 s w hC h2 hU (BA t) hz hT _ hS heq _ _ _ hP1 hP2 hP3 (by decide)
  rw [if_pos d1] at hP1
  by_cases d2 : digB ((t.drop 10).take 5) = true
  rotate_left
  · rw [if_neg d2] at hP2
    rw [Bool.not_eq_true] at d2
    rw [d2, Bool.and_false, Bool.false_and, if_pos rfl]
    exact rdec_dig2 s w hC h2 hU (BA t) hz hT _ hS heq _ _ _ hP1 hP2 hP3 (by omega) (by decide)
  rw [if_pos d2] at hP2
  by_cases d3 : digB ((t.drop 15).take 5) = true
  rotate_left
  · rw [if_neg d3] at hP3
    rw [Bool.not_eq_true] at d3
    rw [d3, Bool.and_false, if_pos rfl]
    exact rdec_dig3 s w hC h2 hU (BA t) hz hT _ hS heq _ _ _ hP1 hP2 hP3 (by omega) (by omega) (by decide)
  rw [if_pos d3] at hP3
  rw [d1, d2, d3, if_neg (by decide)]
  have b2 := numD_lt _ d2
  have b3 := numD_lt _ d3
  rw [z2] at b2
  rw [z3] at b3
  by_cases h6 : 4294967295 < numD (t.take 10)
  · rw [if_pos h6]
    exact rdec_range s w hC h2 hU (BA t) hz hT _ hS heq _ _ _ hP1 hP2 hP3 h6
  rw [if_neg h6]
  have hK := hK (numD (t.take 10)) (numD ((t.drop 10).take 5)) (numD ((t.drop 15).take 5))
  rw [e4] at hK
  by_cases h7 : checkZ (numD ((t.drop 10).take 5)) (numD ((t.drop 15).take 5)) (BA ((t.drop 20).take 64)) = 0
  · rw [h7] at hK ⊢
    rw [if_neg (by decide)]
    have := rdec_good s w hC h2 hU (BA t) hz hT _ hS heq _ _ _ hP1 hP2 hP3 (by omega) (by omega) (by omega) (by rw [e4]; exact hK)
    rwa [e4] at this
  · rw [if_pos h7]
    exact rdec_bad s w hC h2 hU (BA t) hz hT _ hS heq _ _ _ hP1 hP2 hP3 (by omega) (by omega) (by omega) _ (by rw [e4]; exact hK) (by simpa using h7)
end Go.Proofs.YtjmglbppmolipaaGreatDoor
