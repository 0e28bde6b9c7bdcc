/- The example of the chapter is answered with true. -/
import Derived.Test.YtkbaappeakgnoaaGreatDoorRetWalk
namespace Go.Proofs.YtkbaappeakgnoaaGreatDoor
open Go.RowKit Go.Lib
set_option linter.unusedVariables false
attribute [local simp] Slots Slot look Is Oper.looksAt Op.operands Call.operands

/-- the holds of the example -/
def ex1 : List Hold := [(⟨#[97, 47, 98]⟩, 20)]

theorem ex1_short : Short ex1 := by intro h hh; simp [ex1] at hh; subst hh; decide

theorem awake1_any (p : ByteArray) (date : Int) (b : Nat) (C : Addr) (w : World) (hc : w.cell? ⟨b, 0, none⟩ = some (.slice (some C) 1 1)) (hl : HLst w (some C) 1 1 ex1) (hp : p.size < 4294967281) (hE : Env w) :
    Calls Tryz.prog 17 #[.string p, .int .i64 date, .pointer (some ⟨b, 0, none⟩)] w fun e w' => e = .returned (.int .i64 (allowZ ex1 4 p date)) ∧ Ext w w' := by
  have hal := fun (a2 a3 a4 a5 a6 : Value) W (hW : HLst W (some C) 1 1 ex1) (hEW : Env W) => allowed38_any 4 p a2 a3 a4 a5 a6 date (some C) 1 1 ex1 W hW (by decide) hp ex1_short hEW
  generalize allowZ ex1 4 p date = z at *
  have HA := Lib.hid hal
  clear hal
  go_enter Tryz.func17, Tryz.ntmps17
  go_wp2_with fail
  refine (HA.out _ _ _ _ _ _ hl hE).mono ?_
  rintro e w1 ⟨rfl, hx⟩
  go_wp2_with fail
  go_ret
  exact ⟨rfl, hx⟩
theorem awake_any (w : World) (hE : Env w) :
    Calls Tryz.prog 7 #[] w fun e w' => e = .returned (.bool true) ∧ Ext w w' := by
  have v1 : allowZ ex1 4 ⟨#[97]⟩ 10 = 15 := by decide +kernel
  have v2 : allowZ ex1 4 ⟨#[97, 47, 98]⟩ 10 = 15 := by decide +kernel
  have v3 : allowZ ex1 4 ⟨#[97, 47, 98, 47, 99]⟩ 10 = 15 := by decide +kernel
  have v4 : allowZ ex1 2 ⟨#[97]⟩ 10 = 0 := by decide +kernel
  have v5 : allowZ ex1 4 ⟨#[97]⟩ 21 = 0 := by decide +kernel
  have h1 := fun b C W hc hl hEW => awake1_any ⟨#[97]⟩ 10 b C W hc hl (by decide) hEW
  have h2 := fun b C W hc hl hEW => awake1_any ⟨#[97, 47, 98]⟩ 10 b C W hc hl (by decide) hEW
  have h3 := fun b C W hc hl hEW => awake1_any ⟨#[97, 47, 98, 47, 99]⟩ 10 b C W hc hl (by decide) hEW
  have h5 := fun b C W hc hl hEW => awake1_any ⟨#[97]⟩ 21 b C W hc hl (by decide) hEW
  have h4 := fun (a2 a3 a4 a5 a6 : Value) C W (hW : HLst W (some C) 1 1 ex1) (hEW : Env W) => allowed38_any 2 ⟨#[97]⟩ a2 a3 a4 a5 a6 10 (some C) 1 1 ex1 W hW (by decide) (by decide) ex1_short hEW
  rw [v1] at h1
  rw [v2] at h2
  rw [v3] at h3
  rw [v4] at h4
  rw [v5] at h5
  have H1 := Lib.hid h1
  have H2 := Lib.hid h2
  have H3 := Lib.hid h3
  have H4 := Lib.hid h4
  have H5 := Lib.hid h5
  clear v1 v2 v3 v4 v5 h1 h2 h3 h4 h5
  go_enter Tryz.func7, Tryz.ntmps7
  go_wp2_with fail
  have hx0 : Ext w ((w.alloc (.cells #[.string ⟨#[97, 47, 98]⟩, .int .i64 20] 44)).alloc (.cells #[.slice (some ⟨w.heap.size, 0, none⟩) 1 1] 22)) := ((Ext.refl w).alloc _).alloc _
  have hl0 : HLst ((w.alloc (.cells #[.string ⟨#[97, 47, 98]⟩, .int .i64 20] 44)).alloc (.cells #[.slice (some ⟨w.heap.size, 0, none⟩) 1 1] 22)) (some ⟨w.heap.size, 0, none⟩) 1 1 ex1 := by
    refine ⟨rfl, Nat.le_refl _, by decide, fun _ => ⟨_, _, rfl, fun i hi => ?_⟩⟩
    obtain rfl : i = 0 := by simp [ex1] at hi; exact hi
    constructor
    · simp [ex1]
    · simp [ex1]
  have hc0 : ((w.alloc (.cells #[.string ⟨#[97, 47, 98]⟩, .int .i64 20] 44)).alloc (.cells #[.slice (some ⟨w.heap.size, 0, none⟩) 1 1] 22)).cell? ⟨w.heap.size + 1, 0, none⟩ = some (.slice (some ⟨w.heap.size, 0, none⟩) 1 1) := by simp
  generalize (w.alloc (.cells #[.string ⟨#[97, 47, 98]⟩, .int .i64 20] 44)).alloc (.cells #[.slice (some ⟨w.heap.size, 0, none⟩) 1 1] 22) = w0 at *
  have HC := Lib.hid hc0
  clear hc0
  refine (H4.out _ _ _ _ _ _ _ hl0 (hE.ext hx0)).mono ?_
  rintro e w1 ⟨rfl, hx1⟩
  have hx01 := hx0.trans hx1
  go_wp2_with fail
  refine (H1.out _ _ _ (hx1.cell HC.out) (hl0.ext hx1) (hE.ext hx01)).mono ?_
  rintro e w2 ⟨rfl, hx2⟩
  have hx02 := hx1.trans hx2
  go_wp2_with fail
  refine (H2.out _ _ _ (hx02.cell HC.out) (hl0.ext hx02) (hE.ext (hx0.trans hx02))).mono ?_
  rintro e w3 ⟨rfl, hx3⟩
  have hx03 := hx02.trans hx3
  go_wp2_with fail
  refine (H3.out _ _ _ (hx03.cell HC.out) (hl0.ext hx03) (hE.ext (hx0.trans hx03))).mono ?_
  rintro e w4 ⟨rfl, hx4⟩
  have hx04 := hx03.trans hx4
  go_wp2_with fail
  refine (H5.out _ _ _ (hx04.cell HC.out) (hl0.ext hx04) (hE.ext (hx0.trans hx04))).mono ?_
  rintro e w5 ⟨rfl, hx5⟩
  go_wp2_with fail
  go_ret
  exact ⟨rfl, (hx0.trans hx04).trans hx5⟩
end Go.Proofs.YtkbaappeakgnoaaGreatDoor
