/- The reference's comparison of lists of blocks. (Layer 49) -/
import Derived.Test.YtapjhnlnfliljaaDoorDocOut
import Derived.Test.YtapjhnlnfliljaaDoorDocFmtP
import Derived.Deep.QuietTactic
import Derived.BigQuiet
import Derived.BigRegion
namespace Go.Proofs.YtapjhnlnfliljaaDoor
open Go.RowKit
open Go.Lib hiding intOf
set_option linter.unusedVariables false

theorem str_eqB (x y : Bytes) : ((BA x).toList == (BA y).toList) = decide (x = y) := by
  rw [ByteArray.toList_eq, ByteArray.toList_eq, BA_data, BA_data, Bool.eq_iff_iff, beq_iff_eq, decide_eq_true_iff]
theorem take_eq_step {α : Type} {a b : List α} {k : Nat} (ha : k < a.length) (hb : k < b.length) (h : a.take k = b.take k) (he : a[k] = b[k]) : a.take (k + 1) = b.take (k + 1) := by
  rw [List.take_succ_eq_append_getElem ha, List.take_succ_eq_append_getElem hb, h, he]
set_option maxRecDepth 100000 in
set_option maxHeartbeats 1600000 in
theorem texts_any (m1 m2 : Nat) (v1 v2 : Value) (a b : List Bytes) (w : World) (h1 : SL w m1 v1 a) (h2 : SL w m2 v2 b) :
    Calls Tryd.prog 24 #[v1, v2] w fun e w' => e = .returned (.bool (decide (a = b))) ∧ ∃ j, w' = w.drewN j := by
  obtain ⟨A1, c1, rfl, -, hl1, -⟩ := h1
  obtain ⟨A2, c2, rfl, -, hl2, -⟩ := h2
  have r1 := hl1.room
  have r2 := hl2.room
  have x1 := hl1.max
  have x2 := hl2.max
  unfold maxLen at x1 x2
  by_cases hn : a.length = b.length
  rotate_left
  · have hr : decide (a = b) = false := decide_eq_false (fun e => hn (by rw [e]))
    rw [hr]
    have hd : (((a.length : Nat) : Int) != ((b.length : Nat) : Int)) = true := by simp; omega
    clear hl1 hl2 hn hr
    generalize a.length = n1 at *
    generalize b.length = n2 at *
    go_enter Tryd.func24, Tryd.ntmps24
    go_wp2_with fail
    go_ret
    exact ⟨rfl, 0, rfl⟩
  · obtain ⟨n, hnn⟩ : ∃ n, n = a.length := ⟨_, rfl⟩
    have hnb : n = b.length := by omega
    rw [← hnn] at hl1 r1 ⊢
    rw [← hnb] at hl2 r2 ⊢
    have HA := Lib.hid hnn
    have HB := Lib.hid hnb
    have HL1 := Lib.hid hl1
    have HL2 := Lib.hid hl2
    clear hl1 hl2 hn hnn hnb
    go_enter Tryd.func24, Tryd.ntmps24
    go_wp2_with fail
    go_loopw [13] (fun i wr => ∃ k j : Nat, k ≤ n ∧ i = .int .i64 k ∧ a.take k = b.take k ∧ wr = w.drewN j) (fun i _ => n - (intOf i).toNat)
    case atStart => exact ⟨0, 0, Nat.zero_le _, rfl, rfl, rfl⟩
    case round =>
      obtain ⟨k, j, hk, rfl, htk, hwj⟩ := hrel
      have HWJ := Lib.hid hwj
      have HT := Lib.hid htk
      clear htk
      by_cases hkn : k < n
      · have ka : k < a.length := by rw [← HA.out]; exact hkn
        have kb : k < b.length := by rw [← HB.out]; exact hkn
        obtain ⟨g1, o1, rfl, q1⟩ := HL1.out.at_ (by omega)
        obtain ⟨g2, o2, rfl, q2⟩ := HL2.out.at_ (by omega)
        have d1 := q1 k (by rw [strsV_len]; exact ka)
        rw [show w.cell? ⟨g1, o1 + k, none⟩ = wr.cell? ⟨g1, o1 + k, none⟩ by rw [hwj]; rfl] at d1
        have d2 := q2 k (by rw [strsV_len]; exact kb)
        rw [show w.cell? ⟨g2, o2 + k, none⟩ = wr.cell? ⟨g2, o2 + k, none⟩ by rw [hwj]; rfl] at d2
        clear hwj
        simp only [strsV, List.getElem_map] at d1 d2
        have hstep : a[k] = b[k] → a.take (k + 1) = b.take (k + 1) := take_eq_step ka kb HT.out
        have hfail : a[k] ≠ b[k] → decide (a = b) = false := fun h => decide_eq_false (fun e => h (by subst e; rfl))
        have hq := str_eqB a[k] b[k]
        generalize a[k] = x at *
        generalize b[k] = y at *
        have HS := Lib.hid hstep
        have HF := Lib.hid hfail
        have HQ := Lib.hid hq
        clear q1 q2 hstep hfail hq
        cases hd : decide (x = y) with
        | true =>
          have he := HQ.out
          rw [hd] at he
          have HE := Lib.hid (of_decide_eq_true hd)
          clear hd
          go_wp2_with fail
          go_quiet (fail)
          go_wp2_with fail
          go_roundw
          case rel => exact ⟨k + 1, _, by omega, by go_num, HS.out HE.out, by rw [HWJ.out]; exact World.drewN_drewN _ _ _⟩
          case measure => simp [intOf]; omega
        | false =>
          have he := HQ.out
          rw [hd] at he
          have HE := Lib.hid (of_decide_eq_false hd)
          clear hd
          go_wp2_with fail
          go_quiet (fail)
          go_wp2_with fail
          go_ret
          exact ⟨by rw [HF.out HE.out]; rfl, _, by rw [HWJ.out]; exact World.drewN_drewN _ _ _⟩
      · obtain rfl : k = n := by omega
        have hfin : decide (a = b) = true := by
          have := HT.out
          rw [List.take_of_length_le (by rw [← HA.out]; exact Nat.le_refl _), List.take_of_length_le (by rw [← HB.out]; exact Nat.le_refl _)] at this
          exact decide_eq_true this
        have HFIN := Lib.hid hfin
        clear hfin hwj
        go_wp2_with fail
        go_ret
        exact ⟨by rw [HFIN.out]; rfl, _, HWJ.out⟩
/-- a block of a slice of blocks -/
theorem DL.elim {w : World} {v : Value} {l : List DB} (h : DL w v l) : ∃ (A : Option Addr) (c : Nat) (ms : List MB), v = .slice A l.length c ∧ ms.map MB.b = l ∧ l.length ≤ c ∧ c ≤ 9223372036854775807 ∧ (∀ x ∈ ms, MOk w w.heap.size x) ∧ (0 < l.length → ∃ g off, A = some ⟨g, off, none⟩ ∧ g < w.heap.size ∧ ∀ (i : Nat) (x : MB), ms[i]? = some x → w.cell? ⟨g, off + i * 5, none⟩ = some (.int .i64 (x.b.kind : Int)) ∧ w.cell? ⟨g, off + i * 5 + 1, none⟩ = some x.vw ∧ w.cell? ⟨g, off + i * 5 + 2, none⟩ = some x.vr ∧ w.cell? ⟨g, off + i * 5 + 3, none⟩ = some (.string (BA x.b.runs)) ∧ w.cell? ⟨g, off + i * 5 + 4, none⟩ = some (.int .i64 (x.b.width : Int))) := by
  obtain ⟨A, c, ms, rfl, h1, h2, h3, h4, h5, h6⟩ := h
  unfold maxLen at h3
  refine ⟨A, c, ms, rfl, h1, h2, h3, h6, fun hn => ?_⟩
  obtain ⟨g, off, e, hc⟩ := h5 hn
  have key : ∀ (i j : Nat) (x : MB) (u : Value), ms[i]? = some x → x.cells[j]? = some u → w.cell? ⟨g, off + (i * 5 + j), none⟩ = some u := fun i j x u hx hu => hc _ _ (mcells_get ms i j x u hx hu)
  refine ⟨g, off, e, ?_, fun i x hx => ?_⟩
  · have hl : 0 < ms.length := by rw [← List.length_map MB.b, h1]; exact hn
    have := key 0 0 ms[0] _ (List.getElem?_eq_getElem hl) rfl
    exact cell_lt this
  · exact ⟨key i 0 x _ hx rfl, key i 1 x _ hx rfl, key i 2 x _ hx rfl, key i 3 x _ hx rfl, key i 4 x _ hx rfl⟩
set_option maxRecDepth 100000 in
set_option maxHeartbeats 3200000 in
theorem same_any (v1 v2 : Value) (a b : List DB) (w : World) (h1 : DL w v1 a) (h2 : DL w v2 b) :
    Calls Tryd.prog 12 #[v1, v2] w fun e w' => e = .returned (.bool (decide (a = b))) ∧ Ext w w' := by
  obtain ⟨A1, c1, ms1, rfl, e1, r1, x1, k1, q1⟩ := h1.elim
  obtain ⟨A2, c2, ms2, rfl, e2, r2, x2, k2, q2⟩ := h2.elim
  by_cases hn : a.length = b.length
  rotate_left
  · have hr : decide (a = b) = false := decide_eq_false (fun e => hn (by rw [e]))
    rw [hr]
    have hd : (((a.length : Nat) : Int) != ((b.length : Nat) : Int)) = true := by simp; omega
    clear hn hr e1 e2 k1 k2 q1 q2 h1 h2
    generalize a.length = n1 at *
    generalize b.length = n2 at *
    go_enter Tryd.func12, Tryd.ntmps12
    go_wp2_with fail
    go_ret
    exact ⟨rfl, Ext.refl _⟩
  · obtain ⟨n, hnn⟩ : ∃ n, n = a.length := ⟨_, rfl⟩
    have hnb : n = b.length := by omega
    rw [← hnn] at r1 q1 ⊢
    rw [← hnb] at r2 q2 ⊢
    have HA := Lib.hid hnn
    have HB := Lib.hid hnb
    have HK1 := Lib.hid k1
    have HK2 := Lib.hid k2
    have HE1 := Lib.hid e1
    have HE2 := Lib.hid e2
    have HQ1 := Lib.hid q1
    have HQ2 := Lib.hid q2
    clear k1 k2 e1 e2 q1 q2 h1 h2 hn hnn hnb
    go_enter Tryd.func12, Tryd.ntmps12
    go_wp2_with fail
    go_loopw [16] (fun i wr => ∃ k : Nat, k ≤ n ∧ i = .int .i64 k ∧ a.take k = b.take k ∧ Ext w wr) (fun i _ => n - (intOf i).toNat)
    case atStart => exact ⟨0, Nat.zero_le _, rfl, rfl, Ext.refl _⟩
    case round =>
      obtain ⟨k, hk, rfl, htk, hx⟩ := hrel
      have HT := Lib.hid htk
      clear htk
      by_cases hkn : k < n
      · have ka : k < ms1.length := by rw [← List.length_map MB.b, HE1.out, ← HA.out]; exact hkn
        have kb : k < ms2.length := by rw [← List.length_map MB.b, HE2.out, ← HB.out]; exact hkn
        obtain ⟨g1, o1, rfl, hg1, q1⟩ := HQ1.out (by omega)
        obtain ⟨g2, o2, rfl, hg2, q2⟩ := HQ2.out (by omega)
        obtain ⟨a0, a1, a2, a3, a4⟩ := q1 k ms1[k] (List.getElem?_eq_getElem ka)
        obtain ⟨b0, b1, b2, b3, b4⟩ := q2 k ms2[k] (List.getElem?_eq_getElem kb)
        have hm1 := (HK1.out ms1[k] (List.getElem_mem ka)).ext hx
        have hm2 := (HK2.out ms2[k] (List.getElem_mem kb)).ext hx
        have a0 := hx.cell a0
        have a1 := hx.cell a1
        have a2 := hx.cell a2
        have a3 := hx.cell a3
        have a4 := hx.cell a4
        have b0 := hx.cell b0
        have b1 := hx.cell b1
        have b2 := hx.cell b2
        have b3 := hx.cell b3
        have b4 := hx.cell b4
        have hxb : a[k]'(by rw [← HA.out]; exact hkn) = ms1[k].b := by
          have h : (ms1.map MB.b)[k]? = some ms1[k].b := by rw [List.getElem?_map, List.getElem?_eq_getElem ka]; rfl
          rw [HE1.out, List.getElem?_eq_getElem (by rw [← HA.out]; exact hkn)] at h
          exact Option.some.inj h
        have hyb : b[k]'(by rw [← HB.out]; exact hkn) = ms2[k].b := by
          have h : (ms2.map MB.b)[k]? = some ms2[k].b := by rw [List.getElem?_map, List.getElem?_eq_getElem kb]; rfl
          rw [HE2.out, List.getElem?_eq_getElem (by rw [← HB.out]; exact hkn)] at h
          exact Option.some.inj h
        have HXB := Lib.hid hxb
        have HYB := Lib.hid hyb
        clear hxb hyb
        generalize ms1[k] = x at *
        generalize ms2[k] = y at *
        have hg1' : g1 < wr.heap.size := Nat.lt_of_lt_of_le hg1 hx.size
        have hg2' : g2 < wr.heap.size := Nat.lt_of_lt_of_le hg2 hx.size
        obtain ⟨hsw1, ⟨ra1, rc1, rv1, hr1, -, hrl1, hrv1, -⟩⟩ := hm1
        obtain ⟨hsw2, ⟨ra2, rc2, rv2, hr2, -, hrl2, hrv2, -⟩⟩ := hm2
        obtain ⟨wa1, wc1, hw1, -, -⟩ := id hsw1
        obtain ⟨wa2, wc2, hw2, -, -⟩ := id hsw2
        rw [hw1] at a1 hsw1
        rw [hw2] at b1 hsw2
        rw [hr1] at a2
        rw [hr2] at b2
        have hla : k < a.length := by rw [← HA.out]; exact hkn
        have hlb : k < b.length := by rw [← HB.out]; exact hkn
        have hxb : a[k] = x.b := by rw [← HXB.out]
        have hyb : b[k] = y.b := by rw [← HYB.out]
        have HSTEP := Lib.hid (fun (h : x.b = y.b) => take_eq_step hla hlb HT.out (by rw [hxb, hyb, h]))
        have HFAIL : Hid (x.b ≠ y.b → decide (a = b) = false) := fun h => decide_eq_false (fun e => h (by rw [← hxb, ← hyb]; simp only [e]))
        have HSW1 : Hid (SL wr _ (.slice wa1 x.b.words.length wc1) x.b.words) := hsw1
        have HSW2 : Hid (SL wr _ (.slice wa2 y.b.words.length wc2) y.b.words) := hsw2
        have HR1 := Lib.hid hrl1
        have HR2 := Lib.hid hrl2
        have HRV1 := Lib.hid hrv1
        have HRV2 := Lib.hid hrv2
        have zr1 := hrl1.room
        have zr2 := hrl2.room
        have zm1 := hrl1.max
        have zm2 := hrl2.max
        unfold maxLen at zm1 zm2
        obtain ⟨k0, hk0⟩ : ∃ k0, k0 = k := ⟨_, rfl⟩
        clear q1 q2 hsw1 hsw2 hrl1 hrl2 hrv1 hrv2 hxb hyb hla hlb hw1 hw2 hr1 hr2
        rw [← hk0] at HSTEP hkn hk ⊢
        rw [← hk0] at a0 a1 a2 a3 a4 b0 b1 b2 b3 b4
        clear hk0
        go_wp2_with fail
        go_region
        · obtain ⟨W, hW⟩ : ∃ W, W = ((wr.alloc (.cells #[.int .i64 (x.b.kind : Int), .slice wa1 x.b.words.length wc1, .slice ra1 x.b.rows.length rc1, .string (BA x.b.runs), .int .i64 (x.b.width : Int)] 39)).alloc (.cells #[.int .i64 (y.b.kind : Int), .slice wa2 y.b.words.length wc2, .slice ra2 y.b.rows.length rc2, .string (BA y.b.runs), .int .i64 (y.b.width : Int)] 39)).drew := ⟨_, rfl⟩
          have hxW : Ext wr W := by rw [hW]; exact (((Ext.refl wr).alloc _).alloc _).drew
          have hs1 : (wr.alloc (.cells #[.int .i64 (x.b.kind : Int), .slice wa1 x.b.words.length wc1, .slice ra1 x.b.rows.length rc1, .string (BA x.b.runs), .int .i64 (x.b.width : Int)] 39)).heap.size = wr.heap.size + 1 := by simp
          have hb1 : Blk W wr.heap.size 39 [.int .i64 (x.b.kind : Int), .slice wa1 x.b.words.length wc1, .slice ra1 x.b.rows.length rc1, .string (BA x.b.runs), .int .i64 (x.b.width : Int)] := by
            rw [hW]
            exact (show Blk (wr.alloc _) wr.heap.size _ _ from heap_alloc_new wr _).alloc _
          have hb2 : Blk W (wr.heap.size + 1) 39 [.int .i64 (y.b.kind : Int), .slice wa2 y.b.words.length wc2, .slice ra2 y.b.rows.length rc2, .string (BA y.b.runs), .int .i64 (y.b.width : Int)] := by
            have := heap_alloc_new (wr.alloc (.cells #[.int .i64 (x.b.kind : Int), .slice wa1 x.b.words.length wc1, .slice ra1 x.b.rows.length rc1, .string (BA x.b.runs), .int .i64 (x.b.width : Int)] 39)) (.cells #[.int .i64 (y.b.kind : Int), .slice wa2 y.b.words.length wc2, .slice ra2 y.b.rows.length rc2, .string (BA y.b.runs), .int .i64 (y.b.width : Int)] 39)
            rw [hs1] at this
            rw [hW]
            exact this
          rw [← hW]
          have HX := Lib.hid hb1
          have HY := Lib.hid hb2
          obtain ⟨bx, hbx⟩ : ∃ b, b = wr.heap.size := ⟨_, rfl⟩
          obtain ⟨by_, hby⟩ : ∃ b, b = wr.heap.size + 1 := ⟨_, rfl⟩
          rw [← hbx] at HX
          rw [← hby] at HY
          rw [← hby, ← hbx]
          clear hb1 hb2 hW hs1 hbx hby
          obtain ⟨⟨u0, u1, u2, u3, u4⟩, -, -⟩ := five HX.out
          obtain ⟨⟨v0, v1, v2, v3, v4⟩, -, -⟩ := five HY.out
          have hxx := hx.trans hxW
          by_cases t1 : x.b.kind = y.b.kind
          rotate_left
          · have hd : (((x.b.kind : Nat) : Int) != ((y.b.kind : Nat) : Int)) = true := by simp; omega
            have HF := Lib.hid (HFAIL.out (fun e => t1 (by rw [e])))
            clear t1
            go_wp2_with fail
            go_ret
            exact ⟨by rw [HF.out]; rfl, hxx⟩
          have hd1 : (((x.b.kind : Nat) : Int) != ((y.b.kind : Nat) : Int)) = false := by simp; omega
          by_cases t2 : x.b.runs = y.b.runs
          rotate_left
          · have hd2 := str_eqB x.b.runs y.b.runs
            rw [decide_eq_false t2] at hd2
            have HF := Lib.hid (HFAIL.out (fun e => t2 (by rw [e])))
            clear t2 t1
            go_wp2_with fail
            go_ret
            exact ⟨by rw [HF.out]; rfl, hxx⟩
          have hd2 := str_eqB x.b.runs y.b.runs
          rw [decide_eq_true t2] at hd2
          by_cases t3 : x.b.width = y.b.width
          rotate_left
          · have hd3 : (((x.b.width : Nat) : Int) != ((y.b.width : Nat) : Int)) = true := by simp; omega
            have HF := Lib.hid (HFAIL.out (fun e => t3 (by rw [e])))
            clear t3 t2 t1
            go_wp2_with fail
            go_ret
            exact ⟨by rw [HF.out]; rfl, hxx⟩
          have hd3 : (((x.b.width : Nat) : Int) != ((y.b.width : Nat) : Int)) = false := by simp; omega
          have HT1 := Lib.hid t1
          have HT2 := Lib.hid t2
          have HT3 := Lib.hid t3
          have HTX := Lib.hid (texts_any _ _ _ _ x.b.words y.b.words W (HSW1.out.ext hxW) (HSW2.out.ext hxW))
          clear t1 t2 t3
          cases t4 : decide (x.b.words = y.b.words) with
          | false =>
            rw [t4] at HTX
            have HF := Lib.hid (HFAIL.out (fun e => of_decide_eq_false t4 (by rw [e])))
            clear t4
            go_wp2_with fail
            refine HTX.out.mono ?_
            rintro e w3 ⟨rfl, j, rfl⟩
            go_wp2_with fail
            go_ret
            exact ⟨by rw [HF.out]; rfl, hxx.drewN _⟩
          | true =>
            rw [t4] at HTX
            have HT4 := Lib.hid (of_decide_eq_true t4)
            clear t4
            by_cases t5 : x.b.rows.length = y.b.rows.length
            rotate_left
            · have hd5 : (((x.b.rows.length : Nat) : Int) != ((y.b.rows.length : Nat) : Int)) = true := by simp; omega
              have HF := Lib.hid (HFAIL.out (fun e => t5 (by rw [e])))
              clear t5
              go_wp2_with fail
              refine HTX.out.mono ?_
              rintro e w3 ⟨rfl, j, rfl⟩
              go_wp2_with fail
              go_ret
              exact ⟨by rw [HF.out]; rfl, hxx.drewN _⟩
            have hd5 : (((x.b.rows.length : Nat) : Int) != ((y.b.rows.length : Nat) : Int)) = false := by simp; omega
            have HT5 := Lib.hid t5
            go_wp2_with fail
            refine HTX.out.mono ?_
            rintro e w3 ⟨rfl, j0, rfl⟩
            clear t5
            go_wp2_with fail
            go_loopw [66] (fun i wi => ∃ q j : Nat, q ≤ x.b.rows.length ∧ i = .int .i64 q ∧ x.b.rows.take q = y.b.rows.take q ∧ wi = W.drewN j) (fun i _ => x.b.rows.length - (intOf i).toNat)
            case atStart => exact ⟨0, j0, Nat.zero_le _, rfl, rfl, rfl⟩
            case round =>
              obtain ⟨q, j, hq, rfl, htq, hwj⟩ := hrel
              have hWi : Ext W wr := by rw [hwj]; exact (Ext.refl W).drewN j
              have HWJ := Lib.hid hwj
              clear hwj
              have u2 := hWi.cell u2
              have v2 := hWi.cell v2
              have HTQ := Lib.hid htq
              clear htq
              by_cases hql : q < x.b.rows.length
              · have hql2 : q < y.b.rows.length := by rw [← HT5.out]; exact hql
                have hql2i : (q : Int) < (y.b.rows.length : Int) := by omega
                obtain ⟨gr1, or1, rfl, cr1⟩ := HR1.out.at_ (by omega)
                obtain ⟨gr2, or2, rfl, cr2⟩ := HR2.out.at_ (by omega)
                obtain ⟨s1, i1, hs1⟩ := HRV1.out q _ (List.getElem?_eq_getElem hql)
                obtain ⟨s2, i2, hs2⟩ := HRV2.out q _ (List.getElem?_eq_getElem hql2)
                obtain ⟨hk1, i1⟩ := List.getElem?_eq_some_iff.1 i1
                obtain ⟨hk2, i2⟩ := List.getElem?_eq_some_iff.1 i2
                have n1 := (hxW.trans hWi).cell (cr1 q hk1)
                have n2 := (hxW.trans hWi).cell (cr2 q hk2)
                rw [i1] at n1
                rw [i2] at n2
                have hsl1 := hs1
                have hsl2 := hs2
                obtain ⟨sa1, sc1, es1, -⟩ := hs1
                obtain ⟨sa2, sc2, es2, -⟩ := hs2
                have HTR := Lib.hid (fun i => texts_any _ _ _ _ x.b.rows[q] y.b.rows[q] (wr.drewN i) (((hsl1.ext hxW).ext hWi).ext ((Ext.refl _).drewN i)) (((hsl2.ext hxW).ext hWi).ext ((Ext.refl _).drewN i)))
                rw [es1] at n1 HTR
                rw [es2] at n2 HTR
                have hstep : x.b.rows[q] = y.b.rows[q] → x.b.rows.take (q + 1) = y.b.rows.take (q + 1) := take_eq_step hql hql2 HTQ.out
                have hfl : x.b.rows[q] ≠ y.b.rows[q] → decide (a = b) = false := fun h => HFAIL.out (fun e => h (by simp only [e]))
                have HS := Lib.hid hstep
                have HF := Lib.hid hfl
                generalize x.b.rows[q] = X1 at *
                generalize y.b.rows[q] = X2 at *
                clear hstep hfl hsl1 hsl2 es1 es2 i1 i2 hk1 hk2 cr1 cr2 hql2
                cases t6 : decide (X1 = X2) with
                | true =>
                  rw [t6] at HTR
                  have HE := Lib.hid (HS.out (of_decide_eq_true t6))
                  clear t6
                  go_wp2_with fail
                  go_quiet ((first | (exact Calls.quiet_of ((HTR.out _).mono fun e w' ⟨h1, h2⟩ => ⟨h1, h2⟩))))
                  go_wp2_with fail
                  go_roundw
                  case rel => exact ⟨q + 1, _, by omega, by go_num, HE.out, by rw [HWJ.out]; exact World.drewN_drewN _ _ _⟩
                  case measure => simp [intOf]; omega
                | false =>
                  rw [t6] at HTR
                  have HE := Lib.hid (HF.out (of_decide_eq_false t6))
                  clear t6
                  go_wp2_with fail
                  go_quiet ((first | (exact Calls.quiet_of ((HTR.out _).mono fun e w' ⟨h1, h2⟩ => ⟨h1, h2⟩))))
                  go_wp2_with fail
                  go_ret
                  exact ⟨by rw [HE.out]; rfl, (hxx.trans hWi).drewN _⟩
              · obtain rfl : q = x.b.rows.length := by omega
                have hrows : x.b.rows = y.b.rows := by
                  have := HTQ.out
                  rw [List.take_of_length_le (Nat.le_refl _), List.take_of_length_le (by rw [HT5.out]; exact Nat.le_refl _)] at this
                  exact this
                have HE := Lib.hid (HSTEP.out (db_ext HT1.out HT4.out hrows HT2.out HT3.out))
                clear hrows
                go_wp2_with fail
                go_roundw
                case rel => exact ⟨k0 + 1, by omega, by go_num, HE.out, hxx.trans hWi⟩
                case measure => simp [intOf]; omega
        · obtain ⟨W, hW⟩ : ∃ W, W = ((wr.alloc (.cells #[.int .i64 (y.b.kind : Int), .slice wa2 y.b.words.length wc2, .slice ra2 y.b.rows.length rc2, .string (BA y.b.runs), .int .i64 (y.b.width : Int)] 39)).alloc (.cells #[.int .i64 (x.b.kind : Int), .slice wa1 x.b.words.length wc1, .slice ra1 x.b.rows.length rc1, .string (BA x.b.runs), .int .i64 (x.b.width : Int)] 39)).drew := ⟨_, rfl⟩
          have hxW : Ext wr W := by rw [hW]; exact (((Ext.refl wr).alloc _).alloc _).drew
          have hs1 : (wr.alloc (.cells #[.int .i64 (y.b.kind : Int), .slice wa2 y.b.words.length wc2, .slice ra2 y.b.rows.length rc2, .string (BA y.b.runs), .int .i64 (y.b.width : Int)] 39)).heap.size = wr.heap.size + 1 := by simp
          have hb1 : Blk W wr.heap.size 39 [.int .i64 (y.b.kind : Int), .slice wa2 y.b.words.length wc2, .slice ra2 y.b.rows.length rc2, .string (BA y.b.runs), .int .i64 (y.b.width : Int)] := by
            rw [hW]
            exact (show Blk (wr.alloc _) wr.heap.size _ _ from heap_alloc_new wr _).alloc _
          have hb2 : Blk W (wr.heap.size + 1) 39 [.int .i64 (x.b.kind : Int), .slice wa1 x.b.words.length wc1, .slice ra1 x.b.rows.length rc1, .string (BA x.b.runs), .int .i64 (x.b.width : Int)] := by
            have := heap_alloc_new (wr.alloc (.cells #[.int .i64 (y.b.kind : Int), .slice wa2 y.b.words.length wc2, .slice ra2 y.b.rows.length rc2, .string (BA y.b.runs), .int .i64 (y.b.width : Int)] 39)) (.cells #[.int .i64 (x.b.kind : Int), .slice wa1 x.b.words.length wc1, .slice ra1 x.b.rows.length rc1, .string (BA x.b.runs), .int .i64 (x.b.width : Int)] 39)
            rw [hs1] at this
            rw [hW]
            exact this
          rw [← hW]
          have HX := Lib.hid hb2
          have HY := Lib.hid hb1
          obtain ⟨bx, hbx⟩ : ∃ b, b = wr.heap.size + 1 := ⟨_, rfl⟩
          obtain ⟨by_, hby⟩ : ∃ b, b = wr.heap.size := ⟨_, rfl⟩
          rw [← hbx] at HX
          rw [← hby] at HY
          rw [← hbx, ← hby]
          clear hb1 hb2 hW hs1 hbx hby
          obtain ⟨⟨u0, u1, u2, u3, u4⟩, -, -⟩ := five HX.out
          obtain ⟨⟨v0, v1, v2, v3, v4⟩, -, -⟩ := five HY.out
          have hxx := hx.trans hxW
          by_cases t1 : x.b.kind = y.b.kind
          rotate_left
          · have hd : (((x.b.kind : Nat) : Int) != ((y.b.kind : Nat) : Int)) = true := by simp; omega
            have HF := Lib.hid (HFAIL.out (fun e => t1 (by rw [e])))
            clear t1
            go_wp2_with fail
            go_ret
            exact ⟨by rw [HF.out]; rfl, hxx⟩
          have hd1 : (((x.b.kind : Nat) : Int) != ((y.b.kind : Nat) : Int)) = false := by simp; omega
          by_cases t2 : x.b.runs = y.b.runs
          rotate_left
          · have hd2 := str_eqB x.b.runs y.b.runs
            rw [decide_eq_false t2] at hd2
            have HF := Lib.hid (HFAIL.out (fun e => t2 (by rw [e])))
            clear t2 t1
            go_wp2_with fail
            go_ret
            exact ⟨by rw [HF.out]; rfl, hxx⟩
          have hd2 := str_eqB x.b.runs y.b.runs
          rw [decide_eq_true t2] at hd2
          by_cases t3 : x.b.width = y.b.width
          rotate_left
          · have hd3 : (((x.b.width : Nat) : Int) != ((y.b.width : Nat) : Int)) = true := by simp; omega
            have HF := Lib.hid (HFAIL.out (fun e => t3 (by rw [e])))
            clear t3 t2 t1
            go_wp2_with fail
            go_ret
            exact ⟨by rw [HF.out]; rfl, hxx⟩
          have hd3 : (((x.b.width : Nat) : Int) != ((y.b.width : Nat) : Int)) = false := by simp; omega
          have HT1 := Lib.hid t1
          have HT2 := Lib.hid t2
          have HT3 := Lib.hid t3
          have HTX := Lib.hid (texts_any _ _ _ _ x.b.words y.b.words W (HSW1.out.ext hxW) (HSW2.out.ext hxW))
          clear t1 t2 t3
          cases t4 : decide (x.b.words = y.b.words) with
          | false =>
            rw [t4] at HTX
            have HF := Lib.hid (HFAIL.out (fun e => of_decide_eq_false t4 (by rw [e])))
            clear t4
            go_wp2_with fail
            refine HTX.out.mono ?_
            rintro e w3 ⟨rfl, j, rfl⟩
            go_wp2_with fail
            go_ret
            exact ⟨by rw [HF.out]; rfl, hxx.drewN _⟩
          | true =>
            rw [t4] at HTX
            have HT4 := Lib.hid (of_decide_eq_true t4)
            clear t4
            by_cases t5 : x.b.rows.length = y.b.rows.length
            rotate_left
            · have hd5 : (((x.b.rows.length : Nat) : Int) != ((y.b.rows.length : Nat) : Int)) = true := by simp; omega
              have HF := Lib.hid (HFAIL.out (fun e => t5 (by rw [e])))
              clear t5
              go_wp2_with fail
              refine HTX.out.mono ?_
              rintro e w3 ⟨rfl, j, rfl⟩
              go_wp2_with fail
              go_ret
              exact ⟨by rw [HF.out]; rfl, hxx.drewN _⟩
            have hd5 : (((x.b.rows.length : Nat) : Int) != ((y.b.rows.length : Nat) : Int)) = false := by simp; omega
            have HT5 := Lib.hid t5
            go_wp2_with fail
            refine HTX.out.mono ?_
            rintro e w3 ⟨rfl, j0, rfl⟩
            clear t5
            go_wp2_with fail
            go_loopw [66] (fun i wi => ∃ q j : Nat, q ≤ x.b.rows.length ∧ i = .int .i64 q ∧ x.b.rows.take q = y.b.rows.take q ∧ wi = W.drewN j) (fun i _ => x.b.rows.length - (intOf i).toNat)
            case atStart => exact ⟨0, j0, Nat.zero_le _, rfl, rfl, rfl⟩
            case round =>
              obtain ⟨q, j, hq, rfl, htq, hwj⟩ := hrel
              have hWi : Ext W wr := by rw [hwj]; exact (Ext.refl W).drewN j
              have HWJ := Lib.hid hwj
              clear hwj
              have u2 := hWi.cell u2
              have v2 := hWi.cell v2
              have HTQ := Lib.hid htq
              clear htq
              by_cases hql : q < x.b.rows.length
              · have hql2 : q < y.b.rows.length := by rw [← HT5.out]; exact hql
                have hql2i : (q : Int) < (y.b.rows.length : Int) := by omega
                obtain ⟨gr1, or1, rfl, cr1⟩ := HR1.out.at_ (by omega)
                obtain ⟨gr2, or2, rfl, cr2⟩ := HR2.out.at_ (by omega)
                obtain ⟨s1, i1, hs1⟩ := HRV1.out q _ (List.getElem?_eq_getElem hql)
                obtain ⟨s2, i2, hs2⟩ := HRV2.out q _ (List.getElem?_eq_getElem hql2)
                obtain ⟨hk1, i1⟩ := List.getElem?_eq_some_iff.1 i1
                obtain ⟨hk2, i2⟩ := List.getElem?_eq_some_iff.1 i2
                have n1 := (hxW.trans hWi).cell (cr1 q hk1)
                have n2 := (hxW.trans hWi).cell (cr2 q hk2)
                rw [i1] at n1
                rw [i2] at n2
                have hsl1 := hs1
                have hsl2 := hs2
                obtain ⟨sa1, sc1, es1, -⟩ := hs1
                obtain ⟨sa2, sc2, es2, -⟩ := hs2
                have HTR := Lib.hid (fun i => texts_any _ _ _ _ x.b.rows[q] y.b.rows[q] (wr.drewN i) (((hsl1.ext hxW).ext hWi).ext ((Ext.refl _).drewN i)) (((hsl2.ext hxW).ext hWi).ext ((Ext.refl _).drewN i)))
                rw [es1] at n1 HTR
                rw [es2] at n2 HTR
                have hstep : x.b.rows[q] = y.b.rows[q] → x.b.rows.take (q + 1) = y.b.rows.take (q + 1) := take_eq_step hql hql2 HTQ.out
                have hfl : x.b.rows[q] ≠ y.b.rows[q] → decide (a = b) = false := fun h => HFAIL.out (fun e => h (by simp only [e]))
                have HS := Lib.hid hstep
                have HF := Lib.hid hfl
                generalize x.b.rows[q] = X1 at *
                generalize y.b.rows[q] = X2 at *
                clear hstep hfl hsl1 hsl2 es1 es2 i1 i2 hk1 hk2 cr1 cr2 hql2
                cases t6 : decide (X1 = X2) with
                | true =>
                  rw [t6] at HTR
                  have HE := Lib.hid (HS.out (of_decide_eq_true t6))
                  clear t6
                  go_wp2_with fail
                  go_quiet ((first | (exact Calls.quiet_of ((HTR.out _).mono fun e w' ⟨h1, h2⟩ => ⟨h1, h2⟩))))
                  go_wp2_with fail
                  go_roundw
                  case rel => exact ⟨q + 1, _, by omega, by go_num, HE.out, by rw [HWJ.out]; exact World.drewN_drewN _ _ _⟩
                  case measure => simp [intOf]; omega
                | false =>
                  rw [t6] at HTR
                  have HE := Lib.hid (HF.out (of_decide_eq_false t6))
                  clear t6
                  go_wp2_with fail
                  go_quiet ((first | (exact Calls.quiet_of ((HTR.out _).mono fun e w' ⟨h1, h2⟩ => ⟨h1, h2⟩))))
                  go_wp2_with fail
                  go_ret
                  exact ⟨by rw [HE.out]; rfl, (hxx.trans hWi).drewN _⟩
              · obtain rfl : q = x.b.rows.length := by omega
                have hrows : x.b.rows = y.b.rows := by
                  have := HTQ.out
                  rw [List.take_of_length_le (Nat.le_refl _), List.take_of_length_le (by rw [HT5.out]; exact Nat.le_refl _)] at this
                  exact this
                have HE := Lib.hid (HSTEP.out (db_ext HT1.out HT4.out hrows HT2.out HT3.out))
                clear hrows
                go_wp2_with fail
                go_roundw
                case rel => exact ⟨k0 + 1, by omega, by go_num, HE.out, hxx.trans hWi⟩
                case measure => simp [intOf]; omega
      · obtain rfl : k = n := by omega
        have hfin : decide (a = b) = true := by
          have := HT.out
          rw [List.take_of_length_le (by rw [← HA.out]; exact Nat.le_refl _), List.take_of_length_le (by rw [← HB.out]; exact Nat.le_refl _)] at this
          exact decide_eq_true this
        have HFIN := Lib.hid hfin
        clear hfin
        go_wp2_with fail
        go_ret
        exact ⟨by rw [HFIN.out]; rfl, hx⟩
end Go.Proofs.YtapjhnlnfliljaaDoor
