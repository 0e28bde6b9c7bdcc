/- The law RetentionUnion of layer 38 returns true. -/
import Derived.Test.YtkbaappeakgnoaaDoorRetLaw
import Derived.Test.YtkbaappeakgnoaaDoorRetPlain
import Derived.WalkSpells
namespace Go.Proofs.YtkbaappeakgnoaaDoor
open Go.RowKit Go.Lib
set_option linter.unusedVariables false
attribute [local simp] Slots Slot look Is Oper.looksAt Op.operands Call.operands

theorem under_root (p : ByteArray) (h : chk p = 0) : under p ⟨#[]⟩ = true := by
  unfold under
  rw [h, show chk ⟨#[]⟩ = 0 by decide +kernel, show els ⟨#[]⟩ = [] by decide +kernel]
  rfl
theorem root_held (p : ByteArray) (d : Int) (h : chk p = 0) : heldB [(⟨#[]⟩, d)] p d = true := by
  simp [heldB, inForce, under_root p h]
theorem root_next (p : ByteArray) (d : Int) : heldB [(⟨#[]⟩, d)] p (d + 1) = false := by
  simp only [heldB, inForce, List.any_cons, List.any_nil, Bool.or_false]
  rw [decide_eq_false (by omega)]
  rfl

/-- one hold of a list, as a list -/
theorem HLst.one {W : World} {b off n cap : Nat} {l : List Hold} (h : HLst W (some ⟨b, off, none⟩) n cap l) {k : Nat} (hk : k < l.length) (hn : k + 1 ≤ cap) : HLst W (some ⟨b, off + k * 2, none⟩) 1 (cap - k) [l[k]] := by
  refine ⟨rfl, by omega, Nat.le_trans (Nat.sub_le _ _) h.max, fun _ => ⟨b, off + k * 2, rfl, fun i hi => ?_⟩⟩
  obtain rfl : i = 0 := by simpa using hi
  obtain ⟨b', off', hA, hc⟩ := h.at_ (by have := h.len; omega)
  simp only [Option.some.injEq, Addr.mk.injEq, and_true] at hA
  obtain ⟨rfl, rfl⟩ := hA
  simpa using hc k hk

set_option maxHeartbeats 2000000 in
set_option maxRecDepth 100000 in
theorem union_any (kind date : Int) (p : ByteArray) (a2 a3 a4 a5 a6 : Value) (A : Option Addr) (n cap : Nat) (l : List Hold) (w : World) (hl : HLst w A n cap l) (hz : ∀ h ∈ l, h.1.size ≤ maxLen) (hp : p.size < 4294967281) (hE : Env w) :
    Calls Tryd.prog 5 #[.slice A n cap, .agg #[.int .i64 kind, .string p, a2, a3, a4, a5, a6], .int .i64 date] w fun e w' => e = .returned (.bool true) ∧ Ext w w' := by
  have haw := fun W (hW : Env W) => awake_any W hW
  have hfine := fun B W (hl : HLst W A n cap l) (hps : Lst W B 1 1 ([p].map .string)) (hE : Env W) => fine_any A B n cap 1 1 l [p] W hl hz hps (by intro q hq; simp at hq; subst hq; exact hp) hE
  have HAW := Lib.hid haw
  have HF := Lib.hid hfine
  clear haw hfine
  go_enter Tryd.func5, Tryd.ntmps5
  go_wp2_with fail
  have hx0 : Ext w ((w.alloc (.cells #[.int .i64 kind, .string p, a2, a3, a4, a5, a6] 26)).alloc (.cells #[.string p] 9)) := ((Ext.refl w).alloc _).alloc _
  refine (HF.out _ _ (hl.ext hx0) ⟨rfl, Nat.le_refl _, by decide, fun _ => ⟨_, _, rfl, fun i hi => ?_⟩⟩ (hE.ext hx0)).mono ?_
  · obtain rfl : i = 0 := by simp at hi; exact hi
    simp
  rintro e w1 ⟨r, rfl, hr, hx⟩
  have he0 : w1.cell? ⟨w.heap.size, 0, none⟩ = some (.int .i64 kind) := hx.cell (by simp)
  have he1 : w1.cell? ⟨w.heap.size, 1, none⟩ = some (.string p) := hx.cell (by simp)
  have he2 : w1.cell? ⟨w.heap.size, 2, none⟩ = some a2 := hx.cell (by simp)
  have he3 : w1.cell? ⟨w.heap.size, 3, none⟩ = some a3 := hx.cell (by simp)
  have he4 : w1.cell? ⟨w.heap.size, 4, none⟩ = some a4 := hx.cell (by simp)
  have he5 : w1.cell? ⟨w.heap.size, 5, none⟩ = some a5 := hx.cell (by simp)
  have he6 : w1.cell? ⟨w.heap.size, 6, none⟩ = some a6 := hx.cell (by simp)
  have hx1 := hx0.trans hx
  have hl1 := hl.ext hx1
  have hE1 := hE.ext hx1
  clear hx hx0
  cases r
  · clear hr
    go_wp2_with fail
    refine (HAW.out _ hE1).mono ?_
    rintro e w2 ⟨rfl, hx2⟩
    go_wp2_with fail
    go_ret
    exact ⟨rfl, hx1.trans hx2⟩
  · obtain ⟨h12, hg, hck⟩ := hr rfl
    have hs := short_of_good hg
    have hpc := hck p (by simp)
    go_wp2_with fail
    go_loopw [7, 8, 9, 10, 21] (fun hd fb iv one i wr => ∃ k : Nat, k ≤ n ∧ i = .int .i64 k ∧ hd = .bool ((l.take k).any fun h => heldB [h] p date) ∧ fb = .bool ((l.take k).any fun h => allowZ [h] kind p date == 15) ∧ Ext w1 wr) (fun _ _ _ _ i _ => n - (intOf i).toNat)
    case atStart => exact ⟨0, Nat.zero_le _, rfl, rfl, rfl, Ext.refl _⟩
    case round =>
      obtain ⟨k, hk, rfl, rfl, rfl, hx2⟩ := hrel
      by_cases hlt : k < n
      · have hkl : k < l.length := by have := hl1.len; omega
        have hcap := hl1.room
        have hmax := hl1.max
        unfold maxLen at hmax
        obtain ⟨b, off, rfl, hc⟩ := hl1.at_ (by omega)
        have hone := (hl1.ext hx2).one hkl (by omega)
        have hs1 : Short [l[k]] := by
          intro h hh
          obtain rfl : h = l[k] := by simpa using hh
          exact hs _ (List.getElem_mem hkl)
        have c1 := fun W (hW : HLst W (some ⟨b, off + k * 2, none⟩) 1 (cap - k) [l[k]]) (hEW : Env W) => held_any p date _ 1 (cap - k) [l[k]] W hW (by decide) hp hs1 hEW
        have c3 := fun W (hW : HLst W (some ⟨b, off + k * 2, none⟩) 1 (cap - k) [l[k]]) (hEW : Env W) => allowed38_any kind p a2 a3 a4 a5 a6 date _ 1 (cap - k) [l[k]] W hW (by decide) hp hs1 hEW
        have n1 : Hid ((l.take (k + 1)).any (fun h => heldB [h] p date) = ((l.take k).any (fun h => heldB [h] p date) || heldB [l[k]] p date)) := by
          show _ = _
          rw [List.take_succ_eq_append_getElem hkl, List.any_append]
          simp
        have n3 : Hid ((l.take (k + 1)).any (fun h => allowZ [h] kind p date == 15) = ((l.take k).any (fun h => allowZ [h] kind p date == 15) || (allowZ [l[k]] kind p date == 15))) := by
          show _ = _
          rw [List.take_succ_eq_append_getElem hkl, List.any_append]
          simp
        generalize (l.take k).any (fun h => heldB [h] p date) = q1 at n1 ⊢
        generalize (l.take k).any (fun h => allowZ [h] kind p date == 15) = q3 at n3 ⊢
        generalize heldB [l[k]] p date = x1 at c1 n1
        generalize allowZ [l[k]] kind p date = x3 at c3 n3
        have C1 := Lib.hid c1
        have C3 := Lib.hid c3
        have HL := Lib.hid hl1
        have f0 := hx2.cell he0
        have f1 := hx2.cell he1
        have f2 := hx2.cell he2
        have f3 := hx2.cell he3
        have f4 := hx2.cell he4
        have f5 := hx2.cell he5
        have f6 := hx2.cell he6
        have hE2 := hE1.ext hx2
        clear hc hl hg c1 c3
        cases q1
        · go_wp2_with fail
          refine (C1.out _ hone hE2).mono ?_
          rintro e w3 ⟨rfl, hx3⟩
          have f0 := hx3.cell f0
          have f1 := hx3.cell f1
          have f2 := hx3.cell f2
          have f3 := hx3.cell f3
          have f4 := hx3.cell f4
          have f5 := hx3.cell f5
          have f6 := hx3.cell f6
          cases q3
          · go_wp2_with fail
            refine (C3.out _ (hone.ext hx3) (hE2.ext hx3)).mono ?_
            rintro e w4 ⟨rfl, hx4⟩
            go_wp2_with fail
            go_roundw
            case rel => exact ⟨k + 1, by omega, by go_num, by rw [n1.out, Bool.false_or], by rw [n3.out, Bool.false_or], hx2.trans (hx3.trans hx4)⟩
            case measure => simp [intOf]; omega
          · go_wp2_with fail
            go_roundw
            case rel => exact ⟨k + 1, by omega, by go_num, by rw [n1.out, Bool.false_or], by rw [n3.out, Bool.true_or], hx2.trans hx3⟩
            case measure => simp [intOf]; omega
        · cases q3
          · go_wp2_with fail
            refine (C3.out _ hone hE2).mono ?_
            rintro e w4 ⟨rfl, hx4⟩
            go_wp2_with fail
            go_roundw
            case rel => exact ⟨k + 1, by omega, by go_num, by rw [n1.out, Bool.true_or], by rw [n3.out, Bool.false_or], hx2.trans hx4⟩
            case measure => simp [intOf]; omega
          · go_wp2_with fail
            go_roundw
            case rel => exact ⟨k + 1, by omega, by go_num, by rw [n1.out, Bool.true_or], by rw [n3.out, Bool.true_or], hx2⟩
            case measure => simp [intOf]; omega
      · obtain rfl : k = n := by omega
        have T1 : Hid ((l.take k).any (fun h => heldB [h] p date) = heldB l p date) := by
          show _ = _
          rw [heldB_any, hl1.len, List.take_length]
        have T3 : Hid ((l.take k).any (fun h => allowZ [h] kind p date == 15) = (allowZ l kind p date == 15)) := by
          show _ = _
          rw [allowZ_any, hl1.len, List.take_length]
        rw [T1.out, T3.out]
        have c1 := fun W (hW : HLst W A k cap l) (hEW : Env W) => held_any p date A k cap l W hW (by omega) hp hs hEW
        have c3 := fun W (hW : HLst W A k cap l) (hEW : Env W) => allowed38_any kind p a2 a3 a4 a5 a6 date A k cap l W hW (by omega) hp hs hEW
        have hs0 : ∀ u, Short [((⟨#[]⟩ : ByteArray), u)] := by
          intro u h hh
          obtain rfl : h = (⟨#[]⟩, u) := by simpa using hh
          exact Nat.zero_le _
        have r1 := fun B W (hW : HLst W B 1 1 [((⟨#[]⟩ : ByteArray), date)]) (hEW : Env W) => held_any p date B 1 1 [(⟨#[]⟩, date)] W hW (by decide) hp (hs0 _) hEW
        have r2 := fun B W (hW : HLst W B 1 1 [((⟨#[]⟩ : ByteArray), date)]) (hEW : Env W) => held_any p (date + 1) B 1 1 [(⟨#[]⟩, date)] W hW (by decide) hp (hs0 _) hEW
        rw [root_held p date hpc] at r1
        rw [root_next p date] at r2
        generalize heldB l p date = x1 at c1 ⊢
        generalize allowZ l kind p date = x3 at c3 ⊢
        have C1 := Lib.hid c1
        have C3 := Lib.hid c3
        have R1 := Lib.hid r1
        have R2 := Lib.hid r2
        have f0 := hx2.cell he0
        have f1 := hx2.cell he1
        have f2 := hx2.cell he2
        have f3 := hx2.cell he3
        have f4 := hx2.cell he4
        have f5 := hx2.cell he5
        have f6 := hx2.cell he6
        have hE2 := hE1.ext hx2
        have hl2 := hl1.ext hx2
        have HG := Lib.hid hg
        have HPC := Lib.hid hpc
        have HCK := Lib.hid hck
        clear hl hg hck hpc c1 c3 r1 r2 hs0 T1 T3 hr
        have hlt1 := cell_lt f1
        simp only at hlt1
        by_cases d0 : 0 ≤ date
        · have b0 : decide (0 ≤ date) = true := decide_eq_true d0
          have m0 : max date 0 = date := by omega
          by_cases d1 : date ≤ 1000000000
          · have b1 : decide (date ≤ 1000000000) = true := decide_eq_true d1
            have hxa : Ext wr (wr.alloc (.cells #[.string ⟨#[]⟩, .int .i64 date] 39)) := (Ext.refl _).alloc _
            have hroot : HLst (wr.alloc (.cells #[.string ⟨#[]⟩, .int .i64 date] 39)) (some ⟨wr.heap.size, 0, none⟩) 1 1 [((⟨#[]⟩ : ByteArray), date)] := by
              refine ⟨rfl, Nat.le_refl _, by decide, fun _ => ⟨_, _, rfl, fun i hi => ?_⟩⟩
              obtain rfl : i = 0 := by simpa using hi
              constructor
              · simp
              · simp
            go_wp2_with fail
            refine (R1.out _ _ hroot (hE2.ext hxa)).mono ?_
            rintro e w3 ⟨rfl, hx3⟩
            have gxa := hxa.trans hx3
            have g0 := gxa.cell f0
            have g1 := gxa.cell f1
            have g2 := gxa.cell f2
            have g3 := gxa.cell f3
            have g4 := gxa.cell f4
            have g5 := gxa.cell f5
            have g6 := gxa.cell f6
            go_wp2_with fail
            refine (R2.out _ _ (hroot.ext hx3) (hE2.ext gxa)).mono ?_
            rintro e w4 ⟨rfl, hx4⟩
            have gxb := gxa.trans hx4
            have g0 := hx4.cell g0
            have g1 := hx4.cell g1
            have g2 := hx4.cell g2
            have g3 := hx4.cell g3
            have g4 := hx4.cell g4
            have g5 := hx4.cell g5
            have g6 := hx4.cell g6
            have gl := hl2.ext gxb
            have gE := hE2.ext gxb
            have gx := hx2.trans gxb
            go_wp2_with fail
            refine (C1.out _ gl gE).mono ?_
            rintro e w5 ⟨rfl, hx5⟩
            have g0 := hx5.cell g0
            have g1 := hx5.cell g1
            have g2 := hx5.cell g2
            have g3 := hx5.cell g3
            have g4 := hx5.cell g4
            have g5 := hx5.cell g5
            have g6 := hx5.cell g6
            have gl := gl.ext hx5
            have gE := gE.ext hx5
            have gx := gx.trans hx5
            go_wp2_with fail
            refine (C3.out _ gl gE).mono ?_
            rintro e w6 ⟨rfl, hx6⟩
            have gE := gE.ext hx6
            have gx := gx.trans hx6
            go_wp2_with fail
            refine (HAW.out _ gE).mono ?_
            rintro e w7 ⟨rfl, hx7⟩
            go_wp2_with fail
            go_ret
            exact ⟨by simp, hx1.trans (gx.trans hx7)⟩
          · have b1 : decide (date ≤ 1000000000) = false := decide_eq_false d1
            have gxb : Ext wr (wr.alloc (.cells #[.string ⟨#[]⟩, .int .i64 date] 39)) := (Ext.refl _).alloc _
            have g0 := gxb.cell f0
            have g1 := gxb.cell f1
            have g2 := gxb.cell f2
            have g3 := gxb.cell f3
            have g4 := gxb.cell f4
            have g5 := gxb.cell f5
            have g6 := gxb.cell f6
            have gl := hl2.ext gxb
            have gE := hE2.ext gxb
            have gx := hx2.trans gxb
            go_wp2_with fail
            refine (C1.out _ gl gE).mono ?_
            rintro e w5 ⟨rfl, hx5⟩
            have g0 := hx5.cell g0
            have g1 := hx5.cell g1
            have g2 := hx5.cell g2
            have g3 := hx5.cell g3
            have g4 := hx5.cell g4
            have g5 := hx5.cell g5
            have g6 := hx5.cell g6
            have gl := gl.ext hx5
            have gE := gE.ext hx5
            have gx := gx.trans hx5
            go_wp2_with fail
            refine (C3.out _ gl gE).mono ?_
            rintro e w6 ⟨rfl, hx6⟩
            have gE := gE.ext hx6
            have gx := gx.trans hx6
            go_wp2_with fail
            refine (HAW.out _ gE).mono ?_
            rintro e w7 ⟨rfl, hx7⟩
            go_wp2_with fail
            go_ret
            exact ⟨by simp, hx1.trans (gx.trans hx7)⟩
        · have b0 : decide (0 ≤ date) = false := decide_eq_false d0
          have m0 : max date 0 = 0 := by omega
          have gxb : Ext wr (wr.alloc (.cells #[.string ⟨#[]⟩, .int .i64 0] 39)) := (Ext.refl _).alloc _
          have g0 := gxb.cell f0
          have g1 := gxb.cell f1
          have g2 := gxb.cell f2
          have g3 := gxb.cell f3
          have g4 := gxb.cell f4
          have g5 := gxb.cell f5
          have g6 := gxb.cell f6
          have gl := hl2.ext gxb
          have gE := hE2.ext gxb
          have gx := hx2.trans gxb
          go_wp2_with fail
          refine (C1.out _ gl gE).mono ?_
          rintro e w5 ⟨rfl, hx5⟩
          have g0 := hx5.cell g0
          have g1 := hx5.cell g1
          have g2 := hx5.cell g2
          have g3 := hx5.cell g3
          have g4 := hx5.cell g4
          have g5 := hx5.cell g5
          have g6 := hx5.cell g6
          have gl := gl.ext hx5
          have gE := gE.ext hx5
          have gx := gx.trans hx5
          go_wp2_with fail
          refine (C3.out _ gl gE).mono ?_
          rintro e w6 ⟨rfl, hx6⟩
          have gE := gE.ext hx6
          have gx := gx.trans hx6
          go_wp2_with fail
          refine (HAW.out _ gE).mono ?_
          rintro e w7 ⟨rfl, hx7⟩
          go_wp2_with fail
          go_ret
          exact ⟨by simp, hx1.trans (gx.trans hx7)⟩
end Go.Proofs.YtkbaappeakgnoaaDoor
