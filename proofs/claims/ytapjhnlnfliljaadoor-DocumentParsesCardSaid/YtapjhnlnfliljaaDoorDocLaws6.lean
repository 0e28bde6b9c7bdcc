/- The law DocumentParses. (Layer 49) -/
import Derived.Test.YtapjhnlnfliljaaDoorDocLaws2
import Derived.Test.YtapjhnlnfliljaaDoorDocRef4
namespace Go.Proofs.YtapjhnlnfliljaaDoor
open Go.RowKit
open Go.Lib hiding intOf
set_option linter.unusedVariables false

set_option maxRecDepth 100000 in
set_option maxHeartbeats 6400000 in
theorem lawParses_any (s : ByteArray) (w : World) (hs : s.size ≤ maxLen) (hE : Env w) (hS : Sy w) :
    Calls Tryd.prog 3 #[.string s] w fun e w' => e = .returned (.bool true) ∧ Ext w w' := by
  have HA := Lib.hid (fun W (h : Ext w W) => alive_any W (hE.ext h) (hS.ext h))
  unfold maxLen at hs
  by_cases h3 : 30000 < s.size
  · have hd1 : decide ((2000 : Int) < (s.size : Int)) = true := decide_eq_true (by omega)
    have hd2 : decide ((s.size : Int) ≤ 20000) = false := decide_eq_false (by omega)
    have hd3 : decide ((30000 : Int) < (s.size : Int)) = true := decide_eq_true (by omega)
    clear h3
    go_enter Tryd.func3, Tryd.ntmps3
    go_wp2_with fail
    refine (HA.out _ (Ext.refl w)).mono ?_
    rintro e w1 ⟨rfl, hx1⟩
    go_wp2_with fail
    go_ret
    exact ⟨rfl, hx1⟩
  have hd3 : decide ((30000 : Int) < (s.size : Int)) = false := decide_eq_false (by omega)
  have HP := Lib.hid (fun W (h : Ext w W) => parse_any s W (hE.ext h) (hS.ext h) (by unfold maxLen; omega))
  have HR := Lib.hid (fun W => rdoc_any s W (by omega))
  obtain ⟨P, hP⟩ : ∃ P, P = parseA s.data.toList := ⟨_, rfl⟩
  rw [← hP] at HP HR
  clear hP
  have hgo : (decide ((2000 : Int) < (s.size : Int)) = false ∧ s.size ≤ 2000) ∨ (decide ((2000 : Int) < (s.size : Int)) = true ∧ decide ((s.size : Int) ≤ 20000) = false) ∨ (decide ((2000 : Int) < (s.size : Int)) = true ∧ decide ((s.size : Int) ≤ 20000) = true) := by
    by_cases h1 : s.size ≤ 2000
    · exact .inl ⟨decide_eq_false (by omega), h1⟩
    · by_cases h2 : s.size ≤ 20000
      · exact .inr (.inr ⟨decide_eq_true (by omega), decide_eq_true (by omega)⟩)
      · exact .inr (.inl ⟨decide_eq_true (by omega), decide_eq_false (by omega)⟩)
  rcases hgo with ⟨hd1, hd2⟩ | ⟨hd1, hd2⟩ | ⟨hd1, hd2⟩
  rotate_left 2
  · clear h3
    go_enter Tryd.func3, Tryd.ntmps3
    go_wp2_with fail
    refine (HA.out _ (Ext.refl w)).mono ?_
    rintro e w1 ⟨rfl, hx1⟩
    go_wp2_with fail
    go_ret
    exact ⟨rfl, hx1⟩
  all_goals (
    clear h3
    go_enter Tryd.func3, Tryd.ntmps3
    go_wp2_with fail
    refine (HA.out _ (Ext.refl w)).mono ?_
    rintro e w1 ⟨rfl, hx1⟩
    go_wp2_with fail
    refine (HP.out _ hx1).mono ?_
    rintro e w2 ⟨v1, rfl, hdl1, hx2⟩
    go_wp2_with fail
    refine (HR.out _).mono ?_
    rintro e w3 ⟨v2, rfl, hdl2, hx3⟩
    have HSM := Lib.hid (same_self v1 v2 P.1 w3 (hdl1.ext hx3) hdl2)
    have hx13 := (hx1.trans hx2).trans hx3
    clear hdl1 hdl2 hx1 hx2 hx3
    go_wp2_with fail
    refine HSM.out.mono ?_
    rintro e w4 ⟨rfl, hx4⟩
    go_wp2_with fail
    go_ret
    exact ⟨rfl, hx13.trans hx4⟩)
end Go.Proofs.YtapjhnlnfliljaaDoor
