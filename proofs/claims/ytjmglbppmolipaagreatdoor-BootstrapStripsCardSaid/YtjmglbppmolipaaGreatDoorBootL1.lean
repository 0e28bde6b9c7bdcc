/- The law BootstrapStrips returns true. (Layer 28) -/
import Derived.Test.YtjmglbppmolipaaGreatDoorBootB2
namespace Go.Proofs.YtjmglbppmolipaaGreatDoor
open Go.RowKit
open Go.Lib hiding intOf
set_option linter.unusedVariables false

/-- a text that is too long -/
def bText : ByteArray := BA (List.replicate 40001 32)
theorem bText_split (arch : Nat) : splitA bText arch = ([], 6) := by
  unfold splitA
  rw [if_pos (by unfold bText; rw [BA_size, List.length_replicate]; decide)]
set_option maxRecDepth 100000 in
set_option maxHeartbeats 1600000 in
theorem lawStrips_any (s : ByteArray) (arch : Nat) (long : Bool) (w : World) (hs : s.size ≤ maxLen) (ha : arch < 4294967296) (hE : Env w) :
    Calls Tryz.prog 4 #[.string s, .int .u32 arch, .bool long] w fun e w' => e = .returned (.bool true) ∧ Ext w w' := by
  have HA := Lib.hid (fun W (h : Env W) => alive_any W h)
  have HE := Lib.hid hE
  by_cases h1 : 1000 < s.size
  · have hd : decide ((1000 : Int) < (s.size : Int)) = true := decide_eq_true (by omega)
    clear hE
    go_enter Tryz.func4, Tryz.ntmps4
    go_wp2_with fail
    refine (HA.out _ HE.out).mono ?_
    rintro e w1 ⟨rfl, hx1⟩
    go_wp2_with fail
    go_ret
    exact ⟨rfl, hx1⟩
  have hd : decide ((1000 : Int) < (s.size : Int)) = false := decide_eq_false (by omega)
  cases long with
  | true =>
    have hb := fun W (h : Env W) => strips_any bText arch W (by unfold bText; rw [BA_size, List.length_replicate]; decide) ha h
    rw [bText_split] at hb
    have HB := Lib.hid hb
    have HRep := Lib.hid (fun W => repeat_any 32 40001 W (by decide))
    clear hE hb h1
    go_enter Tryz.func4, Tryz.ntmps4
    go_wp2_with fail
    refine (HA.out _ HE.out).mono ?_
    rintro e w1 ⟨rfl, hx1⟩
    go_wp2_with fail
    refine (HRep.out _).mono ?_
    rintro e w2 ⟨rfl, hx2⟩
    rw [show BA (List.replicate 40001 32) = bText from rfl]
    have hx12 := hx1.trans hx2
    clear hx1 hx2
    go_wp2_with fail
    refine (HB.out _ (HE.out.ext hx12)).mono ?_
    rintro e w3 ⟨v, rfl, hown, hx3⟩
    obtain ⟨A, c, rfl, hl⟩ := Lst.of_own (show w3.ownsRow w2.heap.size 9 1 v 0 [] from hown)
    have hxx := hx12.trans hx3
    have hr := hl.room
    have hm := hl.max
    unfold maxLen at hm
    clear hown hl hx3 hx12
    go_wp2_with fail
    go_ret
    exact ⟨rfl, hxx⟩
  | false =>
    have HB := Lib.hid (fun W (h : Env W) => strips_any s arch W hs ha h)
    have HR := Lib.hid (fun W => rstrips_any s arch W hs ha)
    generalize (splitA s arch).2 = E at *
    generalize stripsL (splitA s arch).1 = L at *
    clear hE h1
    go_enter Tryz.func4, Tryz.ntmps4
    go_wp2_with fail
    refine (HA.out _ HE.out).mono ?_
    rintro e w1 ⟨rfl, hx1⟩
    go_wp2_with fail
    refine (HB.out _ (HE.out.ext hx1)).mono ?_
    rintro e w2 ⟨v, rfl, hown, hx2⟩
    obtain ⟨A, c, rfl, hl⟩ := Lst.of_own hown
    have hx12 := hx1.trans hx2
    have HL := Lib.hid hl
    have hr := hl.room
    have hm := hl.max
    clear hown hl hx1 hx2
    go_wp2_with fail
    refine (HR.out _).mono ?_
    rintro e w3 ⟨v2, rfl, hown, hx3⟩
    obtain ⟨A2, c2, rfl, hl2⟩ := Lst.of_own hown
    have HS := Lib.hid (same28_any A A2 L.length c c2 L w3 (HL.out.ext hx3) hl2)
    have hx13 := hx12.trans hx3
    have hr2 := hl2.room
    have hm2 := hl2.max
    unfold maxLen at hm hm2
    clear hown hl2 hx3 hx12
    generalize L.length = n at *
    go_wp2_with fail
    refine HS.out.mono ?_
    rintro e w4 ⟨rfl, hx4⟩
    have hxx := hx13.trans hx4
    go_wp2_with fail
    go_ret
    exact ⟨rfl, hxx⟩
end Go.Proofs.YtjmglbppmolipaaGreatDoor
