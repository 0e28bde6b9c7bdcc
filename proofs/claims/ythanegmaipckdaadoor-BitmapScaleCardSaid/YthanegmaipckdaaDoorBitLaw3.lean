/- The law BitmapScale returns true. (Layer 52) -/
import Derived.Test.YthanegmaipckdaaDoorBitAlive
import Derived.Test.YthanegmaipckdaaDoorBitScale
import Derived.Test.YthanegmaipckdaaDoorBitRefScale
namespace Go.Proofs.YthanegmaipckdaaDoor
open Go.RowKit
open Go.Lib hiding intOf
set_option linter.unusedVariables false

set_option maxHeartbeats 4000000 in
set_option maxRecDepth 100000 in
theorem lawScale_any (A : Option Addr) (n cap : Nat) (rows : List ByteArray) (factor : Int) (w : World) (hl : Lst w A n cap (rows.map .string)) (hz : ∀ r ∈ rows, r.size ≤ maxLen) (hE : Env w) (hY : Sy w) :
    Calls Tryd.prog 8 #[.slice A n cap, .int .i64 factor] w fun e w' => e = .returned (.bool true) ∧ Ext w w' := by
  have HAL := Lib.hid (alive_any w hE hY)
  have hG := fun W (h : Lst W A n cap (rows.map .string)) => great_any A n cap rows W h hz
  have hA := fun W (h : Lst W A n cap (rows.map .string)) => (bscale_any A n cap rows factor W h hz).mono fun e w' h => RowsPost.open h
  have hB := fun W (h : Lst W A n cap (rows.map .string)) => (rscale_any A n cap rows factor W h hz).mono fun e w' h => RowsPost.open h
  have HL := Lib.hid hl
  generalize scaleA rows factor = R at *
  obtain ⟨l, E⟩ := R
  simp only at hA hB
  have hEE : (E == E) = true := beq_self_eq_true _
  have HG := Lib.hid hG
  have HA := Lib.hid hA
  have HB := Lib.hid hB
  clear hG hA hB hl hz
  go_enter Tryd.func8, Tryd.ntmps8
  go_wp2_with fail
  refine HAL.out.mono ?_
  rintro e w1 ⟨rfl, hx1⟩
  go_wp2_with fail
  refine (HG.out _ (HL.out.ext hx1)).mono ?_
  rintro e w2 ⟨g, hg, rfl, hx2⟩
  rcases hg with ⟨rfl, hsm⟩ | rfl
  · have hx12 := hx1.trans hx2
    go_wp2_with fail
    refine (HA.out _ (HL.out.ext hx12)).mono ?_
    rintro e w3 ⟨B, cB, rfl, hlB, hx3⟩
    have HLB := Lib.hid hlB
    clear hlB
    go_wp2_with fail
    refine (HB.out _ (HL.out.ext (hx12.trans hx3))).mono ?_
    rintro e w4 ⟨C, cC, rfl, hlC, hx4⟩
    have hsm := rsame_any B C l.length l.length cB cC _ _ w4 (HLB.out.ext hx4) hlC
    rw [decide_eq_true rfl] at hsm
    have HSM := Lib.hid hsm
    clear hlC hsm
    go_wp2_with fail
    refine HSM.out.mono ?_
    rintro e w5 ⟨rfl, hx5⟩
    go_wp2_with fail
    go_ret
    exact ⟨rfl, ((hx12.trans hx3).trans hx4).trans hx5⟩
  · go_wp2_with fail
    go_ret
    exact ⟨rfl, hx1.trans hx2⟩
end Go.Proofs.YthanegmaipckdaaDoor
