/- document.equal. (Layer 49) -/
import Derived.Test.YtapjhnlnfliljaaDoorDocEq
namespace Go.Proofs.YtapjhnlnfliljaaDoor
open Go.RowKit
open Go.Lib hiding intOf
open Dec
set_option linter.unusedVariables false

set_option maxRecDepth 100000 in
set_option maxHeartbeats 1600000 in
theorem equal_any (x y : MB) (w : World) (h1 : MOk w w.heap.size x) (h2 : MOk w w.heap.size y) :
    Calls Tryd.prog 34 #[blkV x, blkV y] w fun e w' => e = .returned (.bool (decide (x.b = y.b))) ∧ Ext w w' := by
  obtain ⟨sw1, sr1⟩ := h1
  obtain ⟨sw2, sr2⟩ := h2
  have HW := Lib.hid (fun W (h : Ext w W) => equalS_any _ _ _ _ _ _ W (sw1.ext h) (sw2.ext h))
  have HR := Lib.hid (fun W (h : Ext w W) => rowsEq_any _ _ _ _ _ _ W (sr1.ext h) (sr2.ext h))
  have HF : Hid (∀ (r : Bool), (r = true ↔ x.b = y.b) → decide (x.b = y.b) = r) := fun r h => by
    cases r with
    | true => exact decide_eq_true (h.1 rfl)
    | false => exact decide_eq_false (fun e => by have := h.2 e; cases this)
  have HE : Hid (x.b = y.b ↔ x.b.kind = y.b.kind ∧ x.b.words = y.b.words ∧ x.b.rows = y.b.rows ∧ x.b.runs = y.b.runs ∧ x.b.width = y.b.width) := ⟨fun e => by rw [e]; exact ⟨rfl, rfl, rfl, rfl, rfl⟩, fun ⟨h1, h2, h3, h4, h5⟩ => db_ext h1 h2 h3 h4 h5⟩
  have hq := str_eqB x.b.runs y.b.runs
  obtain ⟨A1, c1, hw1, -⟩ := id sw1
  obtain ⟨A2, c2, hw2, -⟩ := id sw2
  obtain ⟨B1, d1, u1, hr1, -⟩ := id sr1
  obtain ⟨B2, d2, u2, hr2, -⟩ := id sr2
  unfold blkV
  rw [hw1, hr1, hw2, hr2]
  rw [hw1, hw2] at HW
  rw [hr1, hr2] at HR
  clear hw1 hw2 hr1 hr2 sw1 sw2 sr1 sr2
  obtain ⟨W, hW⟩ : ∃ W, W = (w.alloc (.cells #[.int .i64 (x.b.kind : Int), .slice A1 x.b.words.length c1, .slice B1 x.b.rows.length d1, .string (BA x.b.runs), .int .i64 (x.b.width : Int)] 39)).alloc (.cells #[.int .i64 (y.b.kind : Int), .slice A2 y.b.words.length c2, .slice B2 y.b.rows.length d2, .string (BA y.b.runs), .int .i64 (y.b.width : Int)] 39) := ⟨_, rfl⟩
  have hxW : Ext w W := by rw [hW]; exact ((Ext.refl w).alloc _).alloc _
  have hs1 : (w.alloc (.cells #[.int .i64 (x.b.kind : Int), .slice A1 x.b.words.length c1, .slice B1 x.b.rows.length d1, .string (BA x.b.runs), .int .i64 (x.b.width : Int)] 39)).heap.size = w.heap.size + 1 := by simp
  have hb1 : Blk W w.heap.size 39 [.int .i64 (x.b.kind : Int), .slice A1 x.b.words.length c1, .slice B1 x.b.rows.length d1, .string (BA x.b.runs), .int .i64 (x.b.width : Int)] := by
    rw [hW]
    exact (show Blk (w.alloc _) w.heap.size _ _ from heap_alloc_new w _).alloc _
  have hb2 : Blk W (w.heap.size + 1) 39 [.int .i64 (y.b.kind : Int), .slice A2 y.b.words.length c2, .slice B2 y.b.rows.length d2, .string (BA y.b.runs), .int .i64 (y.b.width : Int)] := by
    have := heap_alloc_new (w.alloc (.cells #[.int .i64 (x.b.kind : Int), .slice A1 x.b.words.length c1, .slice B1 x.b.rows.length d1, .string (BA x.b.runs), .int .i64 (x.b.width : Int)] 39)) (.cells #[.int .i64 (y.b.kind : Int), .slice A2 y.b.words.length c2, .slice B2 y.b.rows.length d2, .string (BA y.b.runs), .int .i64 (y.b.width : Int)] 39)
    rw [hs1] at this
    rw [hW]
    exact this
  have HX := Lib.hid hb1
  have HY := Lib.hid hb2
  clear hb1 hb2 hs1
  by_cases t1 : x.b.kind = y.b.kind
  rotate_left
  · have hd : (((x.b.kind : Nat) : Int) == ((y.b.kind : Nat) : Int)) = false := by simp; omega
    have hr := Lib.hid (HF.out false ⟨fun h => (by cases h), fun e => absurd (HE.out.1 e).1 t1⟩)
    clear t1
    go_enter Tryd.func34, Tryd.ntmps34
    go_wp2_with fail
    rw [← hW]
    go_ret
    exact ⟨by rw [hr.out]; rfl, hxW⟩
  have hd : (((x.b.kind : Nat) : Int) == ((y.b.kind : Nat) : Int)) = true := by simp; omega
  have HT1 := Lib.hid t1
  clear t1
  go_enter Tryd.func34, Tryd.ntmps34
  go_wp2_with fail
  rw [← hW]
  clear hW
  refine (HW.out _ hxW).mono ?_
  rintro e w1 ⟨rfl, hx1⟩
  have hx1 := hxW.trans hx1
  have HX1 : Hid (Blk w1 w.heap.size 39 [.int .i64 (x.b.kind : Int), .slice A1 x.b.words.length c1, .slice B1 x.b.rows.length d1, .string (BA x.b.runs), .int .i64 (x.b.width : Int)]) := HX.out.ext ‹Ext W w1›
  have HY1 : Hid (Blk w1 (w.heap.size + 1) 39 [.int .i64 (y.b.kind : Int), .slice A2 y.b.words.length c2, .slice B2 y.b.rows.length d2, .string (BA y.b.runs), .int .i64 (y.b.width : Int)]) := HY.out.ext ‹Ext W w1›
  cases hdw : decide (x.b.words = y.b.words) with
  | false =>
    have hne := of_decide_eq_false hdw
    have hr := Lib.hid (HF.out false ⟨fun h => (by cases h), fun e => absurd (HE.out.1 e).2.1 hne⟩)
    clear hne hdw
    go_wp2_with fail
    go_ret
    exact ⟨by rw [hr.out]; rfl, hx1⟩
  | true =>
    have HT2 := Lib.hid (of_decide_eq_true hdw)
    clear hdw
    obtain ⟨⟨u0, u1, u2, u3, u4⟩, -, -⟩ := five HX1.out
    obtain ⟨⟨v0, v1, v2, v3, v4⟩, -, -⟩ := five HY1.out
    go_wp2_with fail
    refine (HR.out _ hx1).mono ?_
    rintro e w2 ⟨rfl, hx2⟩
    have HX2 := Lib.hid (HX1.out.ext hx2)
    have HY2 := Lib.hid (HY1.out.ext hx2)
    have hx2 := hx1.trans hx2
    clear u0 u1 u2 u3 u4 v0 v1 v2 v3 v4
    cases hdr : decide (x.b.rows = y.b.rows) with
    | false =>
      have hne := of_decide_eq_false hdr
      have hr := Lib.hid (HF.out false ⟨fun h => (by cases h), fun e => absurd (HE.out.1 e).2.2.1 hne⟩)
      clear hne hdr
      go_wp2_with fail
      go_ret
      exact ⟨by rw [hr.out]; rfl, hx2⟩
    | true =>
      have HT3 := Lib.hid (of_decide_eq_true hdr)
      clear hdr
      obtain ⟨⟨u0, u1, u2, u3, u4⟩, -, -⟩ := five HX2.out
      obtain ⟨⟨v0, v1, v2, v3, v4⟩, -, -⟩ := five HY2.out
      cases hds : decide (x.b.runs = y.b.runs) with
      | false =>
        rw [hds] at hq
        have hne := of_decide_eq_false hds
        have hr := Lib.hid (HF.out false ⟨fun h => (by cases h), fun e => absurd (HE.out.1 e).2.2.2.1 hne⟩)
        clear hne hds
        go_wp2_with fail
        go_ret
        exact ⟨by rw [hr.out]; rfl, hx2⟩
      | true =>
        rw [hds] at hq
        have HT4 := Lib.hid (of_decide_eq_true hds)
        clear hds
        by_cases t5 : x.b.width = y.b.width
        · have hdw : (((x.b.width : Nat) : Int) == ((y.b.width : Nat) : Int)) = true := by simp; omega
          have hr := Lib.hid (HF.out true ⟨fun _ => HE.out.2 ⟨HT1.out, HT2.out, HT3.out, HT4.out, t5⟩, fun _ => rfl⟩)
          clear t5
          go_wp2_with fail
          go_ret
          exact ⟨by rw [hr.out]; rfl, hx2⟩
        · have hdw : (((x.b.width : Nat) : Int) == ((y.b.width : Nat) : Int)) = false := by simp; omega
          have hr := Lib.hid (HF.out false ⟨fun h => (by cases h), fun e => absurd (HE.out.1 e).2.2.2.2 t5⟩)
          clear t5
          go_wp2_with fail
          go_ret
          exact ⟨by rw [hr.out]; rfl, hx2⟩
end Go.Proofs.YtapjhnlnfliljaaDoor
