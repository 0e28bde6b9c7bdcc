/- slices.EqualFunc of blocks. (Layer 49) -/
import Derived.Test.YtapjhnlnfliljaaDoorDocEq2
namespace Go.Proofs.YtapjhnlnfliljaaDoor
open Go.RowKit
open Go.Lib hiding intOf
open Dec
set_option linter.unusedVariables false

set_option maxRecDepth 100000 in
set_option maxHeartbeats 3200000 in
theorem eqf_any (v1 v2 : Value) (a b : List DB) (w : World) (h1 : DL w v1 a) (h2 : DL w v2 b) :
    Calls Tryd.prog 33 #[v1, v2, .func (.func 34) #[] #[]] w fun e w' => e = .returned (.bool (decide (a = b))) ∧ Ext w w' := by
  obtain ⟨A1, c1, ms1, rfl, e1, r1, x1, k1, q1⟩ := h1.elim
  obtain ⟨A2, c2, ms2, rfl, e2, r2, x2, k2, q2⟩ := h2.elim
  by_cases hn : a.length = b.length
  rotate_left
  · have hr : decide (a = b) = false := decide_eq_false (fun e => hn (by rw [e]))
    rw [hr]
    have hd : (((a.length : Nat) : Int) != ((b.length : Nat) : Int)) = true := by simp; omega
    clear hn hr e1 e2 k1 k2 q1 q2 h1 h2
    generalize a.length = n1 at *
    generalize b.length = n2 at *
    go_enter Tryd.func33, Tryd.ntmps33
    go_wp2_with fail
    go_ret
    exact ⟨rfl, Ext.refl _⟩
  · obtain ⟨n, hnn⟩ : ∃ n, n = a.length := ⟨_, rfl⟩
    have hnb : n = b.length := by omega
    rw [← hnn] at r1 q1 ⊢
    rw [← hnb] at r2 q2 ⊢
    have HA := Lib.hid hnn
    have HB := Lib.hid hnb
    have HK1 := Lib.hid k1
    have HK2 := Lib.hid k2
    have HE1 := Lib.hid e1
    have HE2 := Lib.hid e2
    have HQ1 := Lib.hid q1
    have HQ2 := Lib.hid q2
    have hne : (((n : Nat) : Int) != ((n : Nat) : Int)) = false := by simp
    clear k1 k2 e1 e2 q1 q2 h1 h2 hn hnn hnb
    go_enter Tryd.func33, Tryd.ntmps33
    go_wp2_with fail
    go_loopw [7, 8, 9, 17] (fun q7 q8 q9 i wr => ∃ k : Nat, k ≤ n ∧ i = .int .i64 k ∧ a.take k = b.take k ∧ Ext w wr) (fun _ _ _ i _ => n - (intOf i).toNat)
    case atStart => exact ⟨0, Nat.zero_le _, rfl, rfl, Ext.refl _⟩
    case round =>
      obtain ⟨k, hk, rfl, htk, hx⟩ := hrel
      have HT := Lib.hid htk
      clear htk
      by_cases hkn : k < n
      · have ka : k < ms1.length := by rw [← List.length_map MB.b, HE1.out, ← HA.out]; exact hkn
        have kb : k < ms2.length := by rw [← List.length_map MB.b, HE2.out, ← HB.out]; exact hkn
        obtain ⟨g1, o1, rfl, hg1, q1⟩ := HQ1.out (by omega)
        obtain ⟨g2, o2, rfl, hg2, q2⟩ := HQ2.out (by omega)
        obtain ⟨a0, a1, a2, a3, a4⟩ := q1 k ms1[k] (List.getElem?_eq_getElem ka)
        obtain ⟨b0, b1, b2, b3, b4⟩ := q2 k ms2[k] (List.getElem?_eq_getElem kb)
        have hm1 := (HK1.out ms1[k] (List.getElem_mem ka)).ext hx
        have hm2 := (HK2.out ms2[k] (List.getElem_mem kb)).ext hx
        have a0 := hx.cell a0
        have a1 := hx.cell a1
        have a2 := hx.cell a2
        have a3 := hx.cell a3
        have a4 := hx.cell a4
        have b0 := hx.cell b0
        have b1 := hx.cell b1
        have b2 := hx.cell b2
        have b3 := hx.cell b3
        have b4 := hx.cell b4
        have hla : k < a.length := by rw [← HA.out]; exact hkn
        have hlb : k < b.length := by rw [← HB.out]; exact hkn
        have hxb : a[k] = ms1[k].b := by
          have h : (ms1.map MB.b)[k]? = some ms1[k].b := by rw [List.getElem?_map, List.getElem?_eq_getElem ka]; rfl
          rw [HE1.out, List.getElem?_eq_getElem hla] at h
          exact Option.some.inj h
        have hyb : b[k] = ms2[k].b := by
          have h : (ms2.map MB.b)[k]? = some ms2[k].b := by rw [List.getElem?_map, List.getElem?_eq_getElem kb]; rfl
          rw [HE2.out, List.getElem?_eq_getElem hlb] at h
          exact Option.some.inj h
        have HSTEP := Lib.hid (fun (h : ms1[k].b = ms2[k].b) => take_eq_step hla hlb HT.out (by rw [hxb, hyb, h]))
        have HFAIL : Hid (ms1[k].b ≠ ms2[k].b → decide (a = b) = false) := fun h => decide_eq_false (fun e => h (by rw [← hxb, ← hyb]; simp only [e]))
        have HEQ := Lib.hid (fun W (h : Ext wr W) => equal_any ms1[k] ms2[k] W (hm1.ext h).top (hm2.ext h).top)
        unfold blkV at HEQ
        clear hxb hyb hla hlb
        obtain ⟨⟨wa1, wc1, hw1, -, -⟩, ⟨ra1, rc1, rv1, hr1, -, -⟩⟩ := hm1
        obtain ⟨⟨wa2, wc2, hw2, -, -⟩, ⟨ra2, rc2, rv2, hr2, -, -⟩⟩ := hm2
        clear q1 q2 HK1 HK2
        generalize ms1[k] = x at *
        generalize ms2[k] = y at *
        rw [hw1] at a1
        rw [hw2] at b1
        rw [hr1] at a2
        rw [hr2] at b2
        rw [hw1, hw2, hr1, hr2] at HEQ
        have hg1' : g1 < wr.heap.size := Nat.lt_of_lt_of_le hg1 hx.size
        have hg2' : g2 < wr.heap.size := Nat.lt_of_lt_of_le hg2 hx.size
        have hxx : Ext wr ((wr.alloc (.cells #[.int .i64 (x.b.kind : Int), .slice wa1 x.b.words.length wc1, .slice ra1 x.b.rows.length rc1, .string (BA x.b.runs), .int .i64 (x.b.width : Int)] 39)).alloc (.cells #[.int .i64 (y.b.kind : Int), .slice wa2 y.b.words.length wc2, .slice ra2 y.b.rows.length rc2, .string (BA y.b.runs), .int .i64 (y.b.width : Int)] 39)) := ((Ext.refl wr).alloc _).alloc _
        clear hw1 hw2 hr1 hr2 ka kb hg1 hg2
        go_wp2_with fail
        refine (HEQ.out _ hxx).mono ?_
        rintro e w2 ⟨rfl, hx2⟩
        have hx3 := hx.trans (hxx.trans hx2)
        cases hd : decide (x.b = y.b) with
        | true =>
          have HE := Lib.hid (of_decide_eq_true hd)
          clear hd hxx
          go_wp2_with fail
          go_roundw
          case rel => exact ⟨k + 1, by omega, by go_num, HSTEP.out HE.out, hx3⟩
          case measure => simp [intOf]; omega
        | false =>
          have HE := Lib.hid (of_decide_eq_false hd)
          clear hd hxx
          go_wp2_with fail
          go_ret
          exact ⟨by rw [HFAIL.out HE.out]; rfl, hx3⟩
      · obtain rfl : k = n := by omega
        have hfin : decide (a = b) = true := by
          have := HT.out
          rw [List.take_of_length_le (by rw [← HA.out]; exact Nat.le_refl _), List.take_of_length_le (by rw [← HB.out]; exact Nat.le_refl _)] at this
          exact decide_eq_true this
        have HFIN := Lib.hid hfin
        clear hfin
        go_wp2_with fail
        go_ret
        exact ⟨by rw [HFIN.out]; rfl, hx⟩
end Go.Proofs.YtapjhnlnfliljaaDoor
