/- Contract: Decode of the library, the fields. (Layer 26) -/
import Derived.Test.YtjmglbppmolipaaGreatDoorPfDec
namespace Go.Proofs.YtjmglbppmolipaaGreatDoor
open Go.RowKit
open Go.Lib hiding intOf
set_option linter.unusedVariables false

theorem str_sameD (x : ByteArray) : (x.toList == x.toList) = true := beq_self_eq_true _
set_option maxRecDepth 100000 in
set_option maxHeartbeats 3200000 in
theorem dec_digits (s : ByteArray) (w : World) (hC : ∀ W, Calls Tryz.prog 93 #[.string s] W fun e w' => e = .returned (.int .i64 0) ∧ Ext W w') (h2 : s.size = 752) (hU : ∀ W, Calls Tryz.prog 94 #[.string s] W fun e w' => e = .returned (.int .i64 (0 : Nat)) ∧ W = w') (X : ByteArray) (hz : X.size = 94) (hT : ∀ W, Calls Tryz.prog 95 #[.string s] W fun e w' => (∃ v, e = .returned (.tuple #[.string X, v, .int .i64 0])) ∧ Ext W w') (hS : ∀ W, Env W → Calls Tryz.prog 51 #[.string (X.extract 0 84)] W fun e w' => e = .returned (.string X) ∧ Ext W w') (hE : Env w) (n1 : Nat) (b1 : Bool) (hP1 : ∀ W, Calls Tryz.prog 83 #[.string (X.extract 0 10)] W fun e w' => e = .returned (.tuple #[.int .u64 (n1 : Nat), .bool b1]) ∧ Ext W w') (n2 : Nat) (b2 : Bool) (hP2 : ∀ W, Calls Tryz.prog 83 #[.string (X.extract 10 15)] W fun e w' => e = .returned (.tuple #[.int .u64 (n2 : Nat), .bool b2]) ∧ Ext W w') (n3 : Nat) (b3 : Bool) (hP3 : ∀ W, Calls Tryz.prog 83 #[.string (X.extract 15 20)] W fun e w' => e = .returned (.tuple #[.int .u64 (n3 : Nat), .bool b3]) ∧ Ext W w') (hb : (b1 && b2 && b3) = false) :
    Calls Tryz.prog 65 #[.string s] w fun e w' => e = .returned (.tuple #[zP.val, .int .i64 3]) ∧ Ext w w' := by
  cases b1 <;> cases b2 <;> cases b3
  case true.true.true => cases hb
  all_goals
    clear hb
    have HB0 : Hid (Blk (w.alloc (.cells #[.int .u32 0, .int .i64 0, .int .i64 0, .string ⟨#[]⟩] 57)) w.heap.size 57 [.int .u32 0, .int .i64 0, .int .i64 0, .string ⟨#[]⟩]) := by show (w.heap.push _)[w.heap.size]? = _; simp
    have hx0 : Ext w (w.alloc (.cells #[.int .u32 0, .int .i64 0, .int .i64 0, .string ⟨#[]⟩] 57)) := (Ext.refl w).alloc _
    have HC := Lib.hid hC
    have HU := Lib.hid hU
    have HT := Lib.hid hT
    have HS := Lib.hid hS
    have HG := Lib.hid (fun W => digits_any 10 W)
    have HG5 := Lib.hid (fun W => digits_any 5 W)
    have HP1 := Lib.hid hP1
    have HP2 := Lib.hid hP2
    have HP3 := Lib.hid hP3
    have hXX := str_sameD X
    clear hC hU hT hS hP1 hP2 hP3
    go_enter Tryz.func65, Tryz.ntmps65
    go_wp2_with fail
    refine (HC.out _).mono ?_
    rintro e w1 ⟨rfl, hx⟩
    have HB1 := Lib.hid (HB0.out.ext hx)
    have hx1 := hx0.trans hx
    clear hx hx0
    go_wp2_with fail
    refine (HU.out _).mono ?_
    rintro e w1 ⟨rfl, rfl⟩
    go_wp2_with fail
    refine (HT.out _).mono ?_
    rintro e w2 ⟨⟨v, rfl⟩, hx⟩
    have HB2 := Lib.hid (HB1.out.ext hx)
    have hx2 := hx1.trans hx
    clear hx hx1
    go_wp2_with fail
    refine (HS.out _ (hE.ext hx2)).mono ?_
    rintro e w1 ⟨rfl, hx⟩
    have HB3 := Lib.hid (HB2.out.ext hx)
    have hx3 := hx2.trans hx
    clear hx hx2
    go_wp2_with fail
    refine (HG.out _).mono ?_
    rintro e w3 ⟨rfl, rfl⟩
    have HB4 := Lib.hid (HB3.out.alloc (.cells #[.int .i64 10] 3))
    have hx4 := hx3.alloc (.cells #[.int .i64 10] 3)
    clear hx3
    go_wp2_with fail
    refine (HG5.out _).mono ?_
    rintro e w3 ⟨rfl, rfl⟩
    have HB5 := Lib.hid (HB4.out.alloc (.cells #[.int .i64 5] 3))
    have hx5 := hx4.alloc (.cells #[.int .i64 5] 3)
    clear hx4
    go_wp2_with fail
    refine (HP1.out _).mono ?_
    rintro e w4 ⟨rfl, hx⟩
    have HB6 := Lib.hid (HB5.out.ext hx)
    have hx6 := hx5.trans hx
    clear hx hx5
    go_wp2_with fail
    refine (HP2.out _).mono ?_
    rintro e w5 ⟨rfl, hx⟩
    have HB7 := Lib.hid (HB6.out.ext hx)
    have hx7 := hx6.trans hx
    clear hx hx6
    go_wp2_with fail
    refine (HP3.out _).mono ?_
    rintro e w1 ⟨rfl, hx⟩
    have HBZ := Lib.hid (HB7.out.ext hx)
    obtain ⟨c0, c1, c2, c3, f0, f1, f2, f3⟩ := four HBZ.out
    have hx1 := hx7.trans hx
    clear hx hx7
    go_wp2_with fail
    generalize hW : (((w1.setCell ⟨w.heap.size, 0, none⟩ (.int .u32 0)).setCell ⟨w.heap.size, 1, none⟩ (.int .i64 0)).setCell ⟨w.heap.size, 2, none⟩ (.int .i64 0)).setCell ⟨w.heap.size, 3, none⟩ (.string ⟨#[]⟩) = W'
    obtain ⟨d0, d1, d2, d3, hxx⟩ := put_four (Nat.le_refl _) HBZ.out hx1 _ _ _ _ W' hW
    clear hW c0 c1 c2 c3 f0 f1 f2 f3
    refine bodyPost_ret (v := .tuple #[zP.val, .int .i64 3]) ?_ rfl ⟨rfl, hxx⟩
    simp [results, Tryz.results65, go_sem, zP, Pc.val, d0, d1, d2, d3]; rfl

end Go.Proofs.YtjmglbppmolipaaGreatDoor
