/- The law RetentionNeutral of layer 38 returns true. -/
import Derived.Test.YtkbaappeakgnoaaGreatDoorRetApply
import Derived.Test.YtkbaappeakgnoaaGreatDoorRetLaw
namespace Go.Proofs.YtkbaappeakgnoaaGreatDoor
open Go.RowKit Go.Lib
set_option linter.unusedVariables false

set_option maxHeartbeats 2000000 in
set_option maxRecDepth 100000 in
theorem neutral_any (kind date : Int) (p : ByteArray) (a2 a3 a4 a5 a6 : Value) (A : Option Addr) (n cap : Nat) (l : List Hold) (w : World) (hl : HLst w A n cap l) (hz : ∀ h ∈ l, h.1.size ≤ maxLen) (hp : p.size < 4294967281) (hE : Env w) :
    Calls Tryz.prog 5 #[.slice A n cap, .agg #[.int .i64 kind, .string p, a2, a3, a4, a5, a6], .int .i64 date] w fun e w' => e = .returned (.bool true) ∧ Ext w w' := by
  have haw := fun W (hW : Env W) => awake_any W hW
  have hfine := fun B W (hl : HLst W A n cap l) (hps : Lst W B 1 1 ([p].map .string)) (hE : Env W) => fine_any A B n cap 1 1 l [p] W hl hz hps (by intro q hq; simp at hq; subst hq; exact hp) hE
  have HAW := Lib.hid haw
  have HF := Lib.hid hfine
  clear haw hfine
  go_enter Tryz.func5, Tryz.ntmps5
  go_wp2_with fail
  have hx0 : Ext w ((w.alloc (.cells #[.int .i64 kind, .string p, a2, a3, a4, a5, a6] 32)).alloc (.cells #[.string p] 9)) := ((Ext.refl w).alloc _).alloc _
  refine (HF.out _ _ (hl.ext hx0) ⟨rfl, Nat.le_refl _, by decide, fun _ => ⟨_, _, rfl, fun i hi => ?_⟩⟩ (hE.ext hx0)).mono ?_
  · obtain rfl : i = 0 := by simp at hi; exact hi
    simp
  rintro e w1 ⟨r, rfl, hr, hx⟩
  have he0 : w1.cell? ⟨w.heap.size, 0, none⟩ = some (.int .i64 kind) := hx.cell (by simp)
  have he1 : w1.cell? ⟨w.heap.size, 1, none⟩ = some (.string p) := hx.cell (by simp)
  have he2 : w1.cell? ⟨w.heap.size, 2, none⟩ = some a2 := hx.cell (by simp)
  have he3 : w1.cell? ⟨w.heap.size, 3, none⟩ = some a3 := hx.cell (by simp)
  have he4 : w1.cell? ⟨w.heap.size, 4, none⟩ = some a4 := hx.cell (by simp)
  have he5 : w1.cell? ⟨w.heap.size, 5, none⟩ = some a5 := hx.cell (by simp)
  have he6 : w1.cell? ⟨w.heap.size, 6, none⟩ = some a6 := hx.cell (by simp)
  have hx1 := hx0.trans hx
  have hl1 := hl.ext hx1
  have hE1 := hE.ext hx1
  clear hx hx0
  cases r
  · clear hr
    go_wp2_with fail
    refine (HAW.out _ hE1).mono ?_
    rintro e w2 ⟨rfl, hx2⟩
    go_wp2_with fail
    go_ret
    exact ⟨rfl, hx1.trans hx2⟩
  obtain ⟨h12, hg, _⟩ := hr rfl
  have hs := short_of_good hg
  have c1 := fun W (hEW : Env W) => allowed38_any kind p a2 a3 a4 a5 a6 date none 0 0 [] W (HLst.nil W) (by decide) hp (fun h hh => by cases hh) hEW
  have e1 : allowZ [] kind p date = 0 := by unfold allowZ heldB belowB; simp
  rw [e1] at c1
  have c2 := fun W (hEW : Env W) => held_any p date none 0 0 [] W (HLst.nil W) (by decide) hp (fun h hh => by cases hh) hEW
  have e2 : heldB [] p date = false := rfl
  rw [e2] at c2
  have c3 := fun W (hW : HLst W A n cap l) (hEW : Env W) => allowed38_any kind p a2 a3 a4 a5 a6 date A n cap l W hW (by omega) hp hs hEW
  have c4 := fun W (hW : HLst W A n cap l) => active_hl date A n cap l W hW (by omega)
  have c5 := fun h5 h6 W (hW : HLst W A n cap l) => applyOther_any kind p a2 a3 a4 a5 a6 date A n cap l W h5 h6 hW (by omega)
  have hal : (kind = 5 ∨ kind = 6) → allowZ l kind p date = 0 := by
    intro h
    unfold allowZ
    rw [if_neg (by omega), if_neg (by omega)]
  have C1 := Lib.hid c1
  have C2 := Lib.hid c2
  have C3 := Lib.hid c3
  have C4 := Lib.hid c4
  have C5 := Lib.hid c5
  have HAL := Lib.hid hal
  clear hr hg hs c1 c2 c3 c4 c5 e1 e2 hal hz
  go_wp2_with fail
  refine (C1.out _ hE1).mono ?_
  rintro e w2 ⟨rfl, hx2⟩
  have f0 := hx2.cell he0
  have f1 := hx2.cell he1
  have f2 := hx2.cell he2
  have f3 := hx2.cell he3
  have f4 := hx2.cell he4
  have f5 := hx2.cell he5
  have f6 := hx2.cell he6
  clear he0 he1 he2 he3 he4 he5 he6
  go_wp2_with fail
  refine (C2.out _ (hE1.ext hx2)).mono ?_
  rintro e w3 ⟨rfl, hx3⟩
  have g0 := hx3.cell f0
  have g1 := hx3.cell f1
  have g2 := hx3.cell f2
  have g3 := hx3.cell f3
  have g4 := hx3.cell f4
  have g5 := hx3.cell f5
  have g6 := hx3.cell f6
  clear f0 f1 f2 f3 f4 f5 f6
  have hx23 := hx2.trans hx3
  have hl3 := hl1.ext hx23
  have hE3 := hE1.ext hx23
  have hx13 := hx1.trans hx23
  by_cases h56 : kind = 5 ∨ kind = 6
  · have C6 := C3.out w3 hl3 hE3
    rw [HAL.out h56] at C6
    have HC6 := Lib.hid C6
    clear C6
    rcases h56 with rfl | rfl
    all_goals
      go_wp2_with fail
      refine HC6.out.mono ?_
      rintro e w4 ⟨rfl, hx4⟩
      go_wp2_with fail
      refine (HAW.out _ (hE3.ext hx4)).mono ?_
      rintro e w5 ⟨rfl, hx5⟩
      go_wp2_with fail
      go_ret
      exact ⟨rfl, (hx13.trans hx4).trans hx5⟩
  · have h5 : kind ≠ 5 := fun e => h56 (Or.inl e)
    have h6 : kind ≠ 6 := fun e => h56 (Or.inr e)
    have k5 : (kind == 5) = false := beq_eq_false_iff_ne.2 h5
    have k6 : (kind == 6) = false := beq_eq_false_iff_ne.2 h6
    have HC5 := Lib.hid (C5.out h5 h6 w3 hl3)
    clear h5 h6 h56 C5
    go_wp2_with fail
    refine HC5.out.mono ?_
    rintro e w4 ⟨B, cB, rfl, hlB, hx4⟩
    have HLB := Lib.hid hlB
    clear hlB
    go_wp2_with fail
    refine (C4.out w4 (hl3.ext hx4)).mono ?_
    rintro e w5 ⟨v, rfl, hx5, B2, cB2, rfl, hlB2⟩
    have hsm := rsame_any B B2 _ _ cB cB2 _ _ w5 (HLB.out.ext hx5) hlB2
    rw [decide_eq_true rfl] at hsm
    have HSM := Lib.hid hsm
    have hx45 := (hx13.trans hx4).trans hx5
    clear hlB2 hsm
    go_wp2_with fail
    refine HSM.out.mono ?_
    rintro e w6 ⟨rfl, hx6⟩
    go_wp2_with fail
    refine (HAW.out _ (hE.ext (hx45.trans hx6))).mono ?_
    rintro e w7 ⟨rfl, hx7⟩
    go_wp2_with fail
    go_ret
    exact ⟨rfl, (hx45.trans hx6).trans hx7⟩
end Go.Proofs.YtkbaappeakgnoaaGreatDoor
