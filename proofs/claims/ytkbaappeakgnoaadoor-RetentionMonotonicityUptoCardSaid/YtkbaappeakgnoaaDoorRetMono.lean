/- The law RetentionMonotonicity of layer 38 returns true. -/
import Derived.Test.YtkbaappeakgnoaaDoorRetLaw
import Derived.Test.YtkbaappeakgnoaaDoorRetPlain
namespace Go.Proofs.YtkbaappeakgnoaaDoor
open Go.RowKit Go.Lib
set_option linter.unusedVariables false
attribute [local simp] Slots Slot look Is Oper.looksAt Op.operands Call.operands

set_option maxHeartbeats 2000000 in
set_option maxRecDepth 100000 in
theorem mono_any (kind date earlier : Int) (p : ByteArray) (A2 : Option Addr) (n2 k2 : Nat) (s3 : ByteArray) (z4 : Int) (s5 : ByteArray) (A6 : Option Addr) (n6 k6 : Nat) (A : Option Addr) (n cap : Nat) (l : List Hold) (w : World) (hl : HLst w A n cap l) (hz : ∀ h ∈ l, h.1.size ≤ maxLen) (hp : p.size < 4294967281) (hE : Env w) :
    Calls Tryd.prog 4 #[.agg #[.slice A n cap, .int .i64 kind, .string p, .slice A2 n2 k2, .string s3, .int .i64 z4, .string s5, .slice A6 n6 k6, .int .i64 date, .int .i64 earlier]] w fun e w' => e = .returned (.bool true) ∧ Ext w w' := by
  have haw := fun W (hW : Env W) => awake_any W hW
  have hfine := fun B W (hl : HLst W A n cap l) (hps : Lst W B 1 1 ([p].map .string)) (hE : Env W) => fine_any A B n cap 1 1 l [p] W hl hz hps (by intro q hq; simp at hq; subst hq; exact hp) hE
  have HAW := Lib.hid haw
  have HF := Lib.hid hfine
  clear haw hfine
  have hx00 : Ext w (w.alloc (.cells #[.slice A n cap, .int .i64 kind, .string p, .slice A2 n2 k2, .string s3, .int .i64 z4, .string s5, .slice A6 n6 k6, .int .i64 date, .int .i64 earlier] 36)) := (Ext.refl w).alloc _
  go_enter Tryd.func4, Tryd.ntmps4
  go_wp2_with fail
  go_region
  go_wp2_with fail
  have hx0 : Ext w (((w.alloc (.cells #[.slice A n cap, .int .i64 kind, .string p, .slice A2 n2 k2, .string s3, .int .i64 z4, .string s5, .slice A6 n6 k6, .int .i64 date, .int .i64 earlier] 36)).alloc (.cells #[.int .i64 kind, .string p, .slice A2 n2 k2, .string s3, .int .i64 z4, .string s5, .slice A6 n6 k6] 26)).alloc (.cells #[.string p] 9)).drew := ((hx00.alloc _).alloc _).drew
  refine (HF.out _ _ (hl.ext hx0) ⟨rfl, Nat.le_refl _, by decide, fun _ => ⟨_, _, rfl, fun i hi => ?_⟩⟩ (hE.ext hx0)).mono ?_
  · obtain rfl : i = 0 := by simp at hi; exact hi
    simp only [Nat.add_zero, List.map_cons, List.getElem_cons_zero]
    go_cell
  rintro e w1 ⟨r, rfl, hr, hx⟩
  have he0 : w1.cell? ⟨w.heap.size + 1, 0, none⟩ = some (.int .i64 kind) := hx.cell (by go_cell)
  have he1 : w1.cell? ⟨w.heap.size + 1, 1, none⟩ = some (.string p) := hx.cell (by go_cell)
  have he2 : w1.cell? ⟨w.heap.size + 1, 2, none⟩ = some (.slice A2 n2 k2) := hx.cell (by go_cell)
  have he3 : w1.cell? ⟨w.heap.size + 1, 3, none⟩ = some (.string s3) := hx.cell (by go_cell)
  have he4 : w1.cell? ⟨w.heap.size + 1, 4, none⟩ = some (.int .i64 z4) := hx.cell (by go_cell)
  have he5 : w1.cell? ⟨w.heap.size + 1, 5, none⟩ = some (.string s5) := hx.cell (by go_cell)
  have he6 : w1.cell? ⟨w.heap.size + 1, 6, none⟩ = some (.slice A6 n6 k6) := hx.cell (by go_cell)
  have hx1 := hx0.trans hx
  have hl1 := hl.ext hx1
  have hE1 := hE.ext hx1
  clear hx hx0 hx00
  cases r
  · clear hr
    go_wp2_with fail
    refine (HAW.out _ hE1).mono ?_
    rintro e w2 ⟨rfl, hx2⟩
    go_wp2_with fail
    go_ret
    exact ⟨rfl, hx1.trans hx2⟩
  · obtain ⟨h12, hg, _⟩ := hr rfl
    have hs := short_of_good hg
    by_cases hd : date < earlier
    · have hb : decide (date < earlier) = true := decide_eq_true hd
      clear hr hg hs hz
      go_wp2_with fail
      refine (HAW.out _ hE1).mono ?_
      rintro e w2 ⟨rfl, hx2⟩
      go_wp2_with fail
      go_ret
      exact ⟨rfl, hx1.trans hx2⟩
    · have hb : decide (date < earlier) = false := decide_eq_false hd
      have hle : earlier ≤ date := by omega
      have h1 : heldB l p date = true → heldB l p earlier = true := heldB_anti hle
      have h2 := allowZ_anti hle l kind p
      have c1 := fun W (hW : HLst W A n cap l) (hEW : Env W) => held_any p date A n cap l W hW (by omega) hp hs hEW
      have c2 := fun W (hW : HLst W A n cap l) (hEW : Env W) => held_any p earlier A n cap l W hW (by omega) hp hs hEW
      have c3 := fun W (hW : HLst W A n cap l) (hEW : Env W) => allowed38_any kind p (.slice A2 n2 k2) (.string s3) (.int .i64 z4) (.string s5) (.slice A6 n6 k6) date A n cap l W hW (by omega) hp hs hEW
      have c4 := fun W (hW : HLst W A n cap l) (hEW : Env W) => allowed38_any kind p (.slice A2 n2 k2) (.string s3) (.int .i64 z4) (.string s5) (.slice A6 n6 k6) earlier A n cap l W hW (by omega) hp hs hEW
      generalize heldB l p date = b1 at *
      generalize heldB l p earlier = b2 at *
      generalize allowZ l kind p date = z1 at *
      generalize allowZ l kind p earlier = z2 at *
      have C1 := Lib.hid c1
      have C2 := Lib.hid c2
      have C3 := Lib.hid c3
      have C4 := Lib.hid c4
      have H2 := Lib.hid h2
      clear hr hg hs hz c1 c2 c3 c4 h2 hd hle
      cases b1
      · clear h1
        go_wp2_with fail
        refine (C1.out _ hl1 hE1).mono ?_
        rintro e w2 ⟨rfl, hx2⟩
        have f0 := hx2.cell he0
        have f1 := hx2.cell he1
        have f2 := hx2.cell he2
        have f3 := hx2.cell he3
        have f4 := hx2.cell he4
        have f5 := hx2.cell he5
        have f6 := hx2.cell he6
        go_wp2_with fail
        refine (C3.out _ (hl1.ext hx2) (hE1.ext hx2)).mono ?_
        rintro e w3 ⟨rfl, hx3⟩
        have f0 := hx3.cell f0
        have f1 := hx3.cell f1
        have f2 := hx3.cell f2
        have f3 := hx3.cell f3
        have f4 := hx3.cell f4
        have f5 := hx3.cell f5
        have f6 := hx3.cell f6
        have hx23 := hx2.trans hx3
        by_cases hz1 : z1 = 0
        · have hz1' : (z1 == 0) = true := by rw [hz1]; rfl
          clear hz1
          go_wp2_with fail
          refine (HAW.out _ (hE1.ext hx23)).mono ?_
          rintro e w4 ⟨rfl, hx4⟩
          go_wp2_with fail
          go_ret
          exact ⟨rfl, (hx1.trans hx23).trans hx4⟩
        · have hz1' : (z1 == 0) = false := by simpa using hz1
          have hz2 : z2 = 15 := by rcases H2.out with h | h; exact absurd h hz1; exact h
          subst hz2
          clear hz1
          go_wp2_with fail
          refine (C4.out _ (hl1.ext hx23) (hE1.ext hx23)).mono ?_
          rintro e w4 ⟨rfl, hx4⟩
          go_wp2_with fail
          refine (HAW.out _ (hE1.ext (hx23.trans hx4))).mono ?_
          rintro e w5 ⟨rfl, hx5⟩
          go_wp2_with fail
          go_ret
          exact ⟨rfl, (hx1.trans (hx23.trans hx4)).trans hx5⟩
      · obtain rfl : b2 = true := h1 rfl
        clear h1
        go_wp2_with fail
        refine (C1.out _ hl1 hE1).mono ?_
        rintro e w2 ⟨rfl, hx2⟩
        have f0 := hx2.cell he0
        have f1 := hx2.cell he1
        have f2 := hx2.cell he2
        have f3 := hx2.cell he3
        have f4 := hx2.cell he4
        have f5 := hx2.cell he5
        have f6 := hx2.cell he6
        go_wp2_with fail
        refine (C2.out _ (hl1.ext hx2) (hE1.ext hx2)).mono ?_
        rintro e w2' ⟨rfl, hx2'⟩
        have f0 := hx2'.cell f0
        have f1 := hx2'.cell f1
        have f2 := hx2'.cell f2
        have f3 := hx2'.cell f3
        have f4 := hx2'.cell f4
        have f5 := hx2'.cell f5
        have f6 := hx2'.cell f6
        have hx2 := hx2.trans hx2'
        go_wp2_with fail
        refine (C3.out _ (hl1.ext hx2) (hE1.ext hx2)).mono ?_
        rintro e w3 ⟨rfl, hx3⟩
        have f0 := hx3.cell f0
        have f1 := hx3.cell f1
        have f2 := hx3.cell f2
        have f3 := hx3.cell f3
        have f4 := hx3.cell f4
        have f5 := hx3.cell f5
        have f6 := hx3.cell f6
        have hx23 := hx2.trans hx3
        by_cases hz1 : z1 = 0
        · have hz1' : (z1 == 0) = true := by rw [hz1]; rfl
          clear hz1
          go_wp2_with fail
          refine (HAW.out _ (hE1.ext hx23)).mono ?_
          rintro e w4 ⟨rfl, hx4⟩
          go_wp2_with fail
          go_ret
          exact ⟨rfl, (hx1.trans hx23).trans hx4⟩
        · have hz1' : (z1 == 0) = false := by simpa using hz1
          have hz2 : z2 = 15 := by rcases H2.out with h | h; exact absurd h hz1; exact h
          subst hz2
          clear hz1
          go_wp2_with fail
          refine (C4.out _ (hl1.ext hx23) (hE1.ext hx23)).mono ?_
          rintro e w4 ⟨rfl, hx4⟩
          go_wp2_with fail
          refine (HAW.out _ (hE1.ext (hx23.trans hx4))).mono ?_
          rintro e w5 ⟨rfl, hx5⟩
          go_wp2_with fail
          go_ret
          exact ⟨rfl, (hx1.trans (hx23.trans hx4)).trans hx5⟩
end Go.Proofs.YtkbaappeakgnoaaDoor
