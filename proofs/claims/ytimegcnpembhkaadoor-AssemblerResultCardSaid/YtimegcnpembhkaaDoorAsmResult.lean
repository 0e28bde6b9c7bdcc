/- The law AssemblerResult returns true. -/
import Derived.Test.YtimegcnpembhkaaDoorAsmAwake
import Derived.Test.YtimegcnpembhkaaDoorAsmRef7
namespace Go.Proofs.YtimegcnpembhkaaDoor
open Go.RowKit
open Go.Lib hiding intOf
set_option linter.unusedVariables false

set_option maxHeartbeats 4000000 in
set_option maxRecDepth 100000 in
theorem result_any (src : ByteArray) (o : Int) (w : World) (hs : src.size ≤ maxLen) (hE : Env w) :
    Calls Tryd.prog 3 #[.string src, .int .i64 o] w fun e w' => e = .returned (.bool true) ∧ Ext w w' := by
  have HAW := Lib.hid (fun W (hW : Env W) => awake_any W hW)
  unfold maxLen at hs
  by_cases g1 : (600 : Int) < src.size
  · go_enter Tryd.func3, Tryd.ntmps3
    go_wp2_with fail
    refine (HAW.out _ hE).mono ?_
    rintro e w1 ⟨rfl, hx⟩
    go_wp2_with fail
    go_ret
    exact ⟨rfl, hx⟩
  have hA := fun W (hW : Env W) => assemble_any src o W (by omega) hW
  have hB := fun W => rAssemble_any src o W (by omega)
  generalize asmA src.data.toList o = RA at *
  obtain ⟨s, l, n, e⟩ := RA
  simp only at hA hB
  have HA := Lib.hid hA
  have HB := Lib.hid hB
  have hss : ((BA s).toList == (BA s).toList) = true := by simp
  have hnn : (n == n) = true := by simp
  have hee : (e == e) = true := by simp
  clear hA hB
  generalize BA s = S at *
  go_enter Tryd.func3, Tryd.ntmps3
  go_wp2_with fail
  refine (HA.out _ hE).mono ?_
  rintro e0 w3 ⟨A, cA, rfl, hlA, hx3⟩
  have hE3 := hE.ext hx3
  go_wp2_with fail
  refine (HB.out _).mono ?_
  rintro e0 w4 ⟨B, cB, rfl, hlB, hx4⟩
  have hE4 := hE3.ext hx4
  have hsm := sameSym_any A B l.length l.length cA cB (l.map labH) (l.map labH) w4 (hlA.ext hx4) hlB
  rw [decide_eq_true rfl] at hsm
  have HSM := Lib.hid hsm
  have hx24 := hx3.trans hx4
  clear hlA hlB hsm hx3 hx4
  go_wp2_with fail
  refine HSM.out.mono ?_
  rintro e0 w5 ⟨rfl, hx5⟩
  go_wp2_with fail
  refine (HAW.out _ (hE4.ext hx5)).mono ?_
  rintro e0 w9 ⟨rfl, hx9⟩
  go_wp2_with fail
  go_ret
  exact ⟨rfl, (hx24.trans hx5).trans hx9⟩
end Go.Proofs.YtimegcnpembhkaaDoor
