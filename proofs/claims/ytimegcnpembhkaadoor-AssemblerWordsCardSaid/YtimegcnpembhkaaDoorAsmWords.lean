/- The law AssemblerWords returns true. -/
import Derived.Test.YtimegcnpembhkaaDoorAsmLayout
import Derived.Test.YtimegcnpembhkaaDoorAsmRef4
import Derived.Test.YtimegcnpembhkaaDoorAsmRef5
namespace Go.Proofs.YtimegcnpembhkaaDoor
open Go.RowKit
open Go.Lib hiding intOf
set_option linter.unusedVariables false

set_option maxHeartbeats 4000000 in
set_option maxRecDepth 100000 in
theorem words_any (src : ByteArray) (w : World) (hs : src.size ≤ maxLen) (hE : Env w) :
    Calls Tryd.prog 6 #[.string src] w fun e w' => e = .returned (.bool true) ∧ Ext w w' := by
  have HAW := Lib.hid (fun W (hW : Env W) => awake_any W hW)
  unfold maxLen at hs
  by_cases g1 : (600 : Int) < src.size
  · go_enter Tryd.func6, Tryd.ntmps6
    go_wp2_with fail
    refine (HAW.out _ hE).mono ?_
    rintro e w1 ⟨rfl, hx⟩
    go_wp2_with fail
    go_ret
    exact ⟨rfl, hx⟩
  have hA := fun W => disassemble_any src W (by omega)
  have hB := fun W => rDis_any src W (by omega)
  have hW1 := fun W (hW : Env W) => awords_any src W (by omega) hW
  have hW2 := fun W => rWords_any src W (by omega)
  generalize disA src.data.toList = RA at *
  obtain ⟨s, n⟩ := RA
  simp only at hA hB
  generalize toks src.data.toList = ta at *
  have HA := Lib.hid hA
  have HB := Lib.hid hB
  have HW1 := Lib.hid hW1
  have HW2 := Lib.hid hW2
  have hss : ((BA s).toList == (BA s).toList) = true := by simp
  have hnn : (n == n) = true := by simp
  clear hA hB hW1 hW2
  generalize BA s = S at *
  go_enter Tryd.func6, Tryd.ntmps6
  go_wp2_with fail
  refine (HA.out _).mono ?_
  rintro e0 w1 ⟨rfl, hx1⟩
  go_wp2_with fail
  refine (HB.out _).mono ?_
  rintro e0 w1 ⟨rfl, rfl⟩
  have hE1 := hE.ext hx1
  go_wp2_with fail
  refine (HW1.out _ hE1).mono ?_
  rintro e0 w6 ⟨v1, rfl, hown1, hx6⟩
  obtain ⟨C, cC, rfl, hlC⟩ := Lst.of_own hown1
  have hE6 := hE1.ext hx6
  clear hown1
  go_wp2_with fail
  refine (HW2.out _).mono ?_
  rintro e0 w7 ⟨v2, rfl, hown2, hx7⟩
  obtain ⟨D, cD, rfl, hlD⟩ := Lst.of_own hown2
  have hE7 := hE6.ext hx7
  have hst := sameStr_any C D ta.length ta.length cC cD _ _ w7 (words_lst (hlC.ext hx7)) (words_lst hlD)
  rw [decide_eq_true rfl] at hst
  have HST := Lib.hid hst
  have hx57 := (hx1.trans hx6).trans hx7
  clear hown2 hlC hlD hst hx1 hx6 hx7
  go_wp2_with fail
  refine HST.out.mono ?_
  rintro e0 w8 ⟨rfl, hx8⟩
  go_wp2_with fail
  refine (HAW.out _ (hE7.ext hx8)).mono ?_
  rintro e0 w9 ⟨rfl, hx9⟩
  go_wp2_with fail
  go_ret
  exact ⟨rfl, (hx57.trans hx8).trans hx9⟩
end Go.Proofs.YtimegcnpembhkaaDoor
