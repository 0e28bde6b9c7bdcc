/- The example of the chapter. (Layer 49) -/
import Derived.Test.YtapjhnlnfliljaaDoorDocParse
import Derived.Test.YtapjhnlnfliljaaDoorDocSame
namespace Go.Proofs.YtapjhnlnfliljaaDoor
open Go.RowKit
open Go.Lib hiding intOf
set_option linter.unusedVariables false

def exD : Bytes := [35, 32, 84, 105, 116, 108, 101, 10, 10, 115, 111, 109, 101, 10, 116, 101, 120, 116, 10, 124, 97, 124, 32, 98, 32, 124]
def exB : List DB := [⟨1, [[84, 105, 116, 108, 101]], [], [], 0⟩, ⟨2, [[115, 111, 109, 101], [116, 101, 120, 116]], [], [], 0⟩, ⟨3, [], [[[97], [98]]], [], 0⟩]
theorem exD_ok : parseA exD = (exB, 0, 0) := by decide +kernel
theorem three_of {α : Type} {l : List α} (h : l.length = 3) : ∃ a b c, l = [a, b, c] := by
  match l, h with
  | [a, b, c], _ => exact ⟨a, b, c, rfl⟩
set_option maxRecDepth 100000 in
set_option maxHeartbeats 1600000 in
theorem alive_any (w : World) (hE : Env w) (hS : Sy w) : Calls Tryd.prog 9 #[] w fun e w' => e = .returned (.bool true) ∧ Ext w w' := by
  have h := parse_any (BA exD) w hE hS (by decide)
  rw [BA_data, exD_ok] at h
  have H := Lib.hid h
  unfold exD BA at H
  clear h
  go_enter Tryd.func9, Tryd.ntmps9
  go_wp2_with fail
  refine H.out.mono ?_
  rintro e w1 ⟨v, rfl, hd, hx⟩
  obtain ⟨A, c, ms, rfl, e1, hc, hm, hok, hat⟩ := hd.elim
  obtain ⟨g, off, rfl, hg, hcell⟩ := hat (by decide)
  obtain ⟨m0, m1, m2, rfl⟩ := three_of (l := ms) (by have := congrArg List.length e1; rw [List.length_map] at this; exact this)
  have q0 : m0.b = ⟨1, [[84, 105, 116, 108, 101]], [], [], 0⟩ := by unfold exB at e1; simp at e1; exact e1.1
  have q1 : m1.b = ⟨2, [[115, 111, 109, 101], [116, 101, 120, 116]], [], [], 0⟩ := by unfold exB at e1; simp at e1; exact e1.2.1
  have q2 : m2.b = ⟨3, [], [[[97], [98]]], [], 0⟩ := by unfold exB at e1; simp at e1; exact e1.2.2
  obtain ⟨a0, -, -, -, -⟩ := hcell 0 m0 rfl
  obtain ⟨-, a1, -, -, -⟩ := hcell 1 m1 rfl
  obtain ⟨-, -, a2, -, -⟩ := hcell 2 m2 rfl
  rw [q0] at a0
  obtain ⟨⟨wa1, wc1, hw1, -, hl1, -⟩, -⟩ := hok m1 (by simp)
  obtain ⟨-, ⟨ra, rc, rv, hr, -, hl2, hrv, -⟩⟩ := hok m2 (by simp)
  rw [q1] at hw1 hl1
  rw [q2] at hr hl2 hrv
  rw [hw1] at a1
  rw [hr] at a2
  obtain ⟨u, hu, ⟨sa, sc, es, -, hl3, -⟩⟩ := hrv 0 _ rfl
  obtain ⟨gr, ofr, rfl, cr⟩ := hl2.at_ (by decide)
  have hl2l : rv.length = 1 := by have := hl2.len; simp at this; omega
  have r0 := cr 0 (by omega)
  have hu2 : rv[0] = u := by rw [List.getElem?_eq_getElem (by omega)] at hu; exact Option.some.inj hu
  rw [hu2, es] at r0
  obtain ⟨gs, ofs, rfl, cs⟩ := hl3.at_ (by decide)
  have s1 := cs 1 (by decide)
  have z1 := hl1.room
  have z2 := hl2.room
  have z3 := hl3.room
  have y1 := hl1.max
  have y2 := hl2.max
  have y3 := hl3.max
  unfold maxLen at y1 y2 y3
  have HH := Lib.hid hx
  have r0 : w1.cell? ⟨gr, ofr, none⟩ = some (.slice (some ⟨gs, ofs, none⟩) 2 sc) := r0
  simp [strsV] at s1 z1 z2 z3 a0 a1 a2 hc
  simp only [show exB.length = 3 from rfl] at hc ⊢
  have hq : ((BA [98]).toList == [98]) = true := by rw [ByteArray.toList_eq, BA_data]; rfl
  clear hcell hok e1 q0 q1 q2 hl1 hl2 hl3 hrv cr cs hw1 hr es hu hu2 hx hd hat
  go_wp2_with fail
  go_ret
  exact ⟨rfl, HH.out⟩
end Go.Proofs.YtapjhnlnfliljaaDoor
