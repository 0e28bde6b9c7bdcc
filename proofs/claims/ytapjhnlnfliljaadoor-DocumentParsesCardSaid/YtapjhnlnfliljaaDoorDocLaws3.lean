/- The law DocumentRoundTrip. (Layer 49) -/
import Derived.Test.YtapjhnlnfliljaaDoorDocFmt3
namespace Go.Proofs.YtapjhnlnfliljaaDoor
open Go.RowKit
open Go.Lib hiding intOf
open Dec
set_option linter.unusedVariables false

theorem parseA_bad {t : Bytes} {l : List DB} {n e : Nat} (h : parseA t = (l, n, e)) (he : e ≠ 0) : l = [] := by
  unfold parseA at h
  split at h
  · cases h; rfl
  · rw [goA_eq] at h
    split at h <;> cases h
    · rfl
    · exact absurd rfl he
theorem DL.shape {w : World} {v : Value} {l : List DB} (h : DL w v l) : ∃ A c, v = .slice A l.length c := let ⟨A, c, _, e, _⟩ := h; ⟨A, c, e⟩
set_option maxRecDepth 100000 in
set_option maxHeartbeats 6400000 in
theorem lawRound_any (s : ByteArray) (w : World) (hs : s.size ≤ maxLen) (hE : Env w) (hS : Sy w) :
    Calls Tryd.prog 7 #[.string s] w fun e w' => e = .returned (.bool true) ∧ Ext w w' := by
  have HA := Lib.hid (fun W (h : Ext w W) => alive_any W (hE.ext h) (hS.ext h))
  have hsl : s.data.toList.length = s.size := by simp
  unfold maxLen at hs
  by_cases hbig : 2000 < s.size
  · have hd : decide ((2000 : Int) < (s.size : Int)) = true := decide_eq_true (by omega)
    clear hbig hsl
    go_enter Tryd.func7, Tryd.ntmps7
    go_wp2_with fail
    refine (HA.out _ (Ext.refl w)).mono ?_
    rintro e w1 ⟨rfl, hx1⟩
    go_wp2_with fail
    go_ret
    exact ⟨rfl, hx1⟩
  have hd : decide ((2000 : Int) < (s.size : Int)) = false := decide_eq_false (by omega)
  have HP := Lib.hid (fun W (h : Ext w W) => parse_any s W (hE.ext h) (hS.ext h) (by unfold maxLen; omega))
  obtain ⟨l, n, e, hp⟩ : ∃ l n e, parseA s.data.toList = (l, n, e) := ⟨_, _, _, rfl⟩
  rw [hp] at HP
  by_cases he : e = 0
  rotate_left
  · have hee : (((e : Nat) : Int) != 0) = true := by simp; omega
    have hl := parseA_bad hp he
    subst hl
    clear hp hbig hsl he
    go_enter Tryd.func7, Tryd.ntmps7
    go_wp2_with fail
    refine (HA.out _ (Ext.refl w)).mono ?_
    rintro e w1 ⟨rfl, hx1⟩
    go_wp2_with fail
    refine (HP.out _ hx1).mono ?_
    rintro e w2 ⟨v, rfl, hdl, hx2⟩
    obtain ⟨A, c, rfl⟩ := hdl.shape
    clear hdl
    go_wp2_with fail
    go_ret
    exact ⟨rfl, hx1.trans hx2⟩
  subst he
  have hwt := parse_wt hp
  have hkd := parse_kind hp
  have hrt := format_parsed (by omega) hp
  have HFm := Lib.hid (fun W v (h : Ext w W) (hd : DL W v l) => Format_any v l W hd hkd (by omega) (hE.ext h) (hS.ext h))
  have hfz : ∀ F : Bytes × Nat, F = formatA l → F.2 = 0 → F.1.length ≤ 200000 := by
    intro F hF h0
    subst hF
    revert h0
    unfold formatA
    obtain ⟨ps, h1, h2⟩ := partsA_some l hkd
    have h3 := joinA_len [10] rfl ps
    rw [h1]
    dsimp only
    split
    · intro h; cases h
    · split
      · intro h; cases h
      · intro _; show (joinA [10] ps).length ≤ _; omega
  have hfz := hfz _ rfl
  obtain ⟨t, f, hF⟩ : ∃ t f, formatA l = (t, f) := ⟨_, _, rfl⟩
  rw [hF] at HFm hrt hfz
  dsimp only at hrt hfz
  rcases hrt with rfl | ⟨rfl, hrt⟩
  · clear hp hbig hsl hwt hkd hfz hF
    generalize BA t = T at *
    go_enter Tryd.func7, Tryd.ntmps7
    go_wp2_with fail
    refine (HA.out _ (Ext.refl w)).mono ?_
    rintro e w1 ⟨rfl, hx1⟩
    go_wp2_with fail
    refine (HP.out _ hx1).mono ?_
    rintro e w2 ⟨v, rfl, hdl, hx2⟩
    have hx12 := hx1.trans hx2
    go_wp2_with fail
    refine (HFm.out _ _ hx12 hdl).mono ?_
    rintro e w3 ⟨rfl, hx3⟩
    go_wp2_with fail
    go_ret
    exact ⟨rfl, hx12.trans hx3⟩
  · have htz := hfz rfl
    have hp2 := fun W (h : Ext w W) => parse_any (BA t) W (hE.ext h) (hS.ext h) (by rw [BA_size]; unfold maxLen; omega)
    rw [BA_data, hrt] at hp2
    have HP2 := Lib.hid hp2
    clear hp hbig hsl hwt hkd hfz hF hrt hp2 htz
    generalize BA t = T at *
    go_enter Tryd.func7, Tryd.ntmps7
    go_wp2_with fail
    refine (HA.out _ (Ext.refl w)).mono ?_
    rintro e w1 ⟨rfl, hx1⟩
    go_wp2_with fail
    refine (HP.out _ hx1).mono ?_
    rintro e w2 ⟨v, rfl, hdl, hx2⟩
    have hx12 := hx1.trans hx2
    go_wp2_with fail
    refine (HFm.out _ _ hx12 hdl).mono ?_
    rintro e w3 ⟨rfl, hx3⟩
    have hx13 := hx12.trans hx3
    go_wp2_with fail
    refine (HP2.out _ hx13).mono ?_
    rintro e w4 ⟨v4, rfl, hdl4, hx4⟩
    have hx14 := hx13.trans hx4
    go_wp2_with fail
    refine (HFm.out _ _ hx14 hdl4).mono ?_
    rintro e w5 ⟨rfl, hx5⟩
    have hx15 := hx14.trans hx5
    have HSM := Lib.hid (same_self v v4 l w5 (hdl.ext (hx3.trans (hx4.trans hx5))) (hdl4.ext hx5))
    clear hdl hdl4 hx1 hx2 hx3 hx4 hx5 hx12 hx13 hx14
    go_wp2_with fail
    refine HSM.out.mono ?_
    rintro e w6 ⟨rfl, hx6⟩
    go_wp2_with fail
    go_ret
    exact ⟨rfl, hx15.trans hx6⟩
end Go.Proofs.YtapjhnlnfliljaaDoor
