/- The reference's parse: a line. (Layer 49) -/
import Derived.Test.YtapjhnlnfliljaaDoorDocRef3b
namespace Go.Proofs.YtapjhnlnfliljaaDoor
open Go.RowKit
open Go.Lib hiding intOf
set_option linter.unusedVariables false
set_option linter.unusedSimpArgs false

theorem RPost.store {w w2 : World} {b m : Nat} {R : DB × Nat} {k : Nat} {A1 A2 : Option Addr} {n1 c1 n2 c2 : Nat} {r : ByteArray} {wd : Nat} (hb : w.heap.size ≤ b) (hx : Ext w w2) (hm : w.heap.size ≤ m) (hoff : OffS w2 b)
    (hok : R.2 = 0 → k = R.1.kind ∧ r = BA R.1.runs ∧ wd = R.1.width ∧ RLine w2 m R.1 (.slice A1 n1 c1) (.slice A2 n2 c2)) :
    RPost w R (.returned (.agg #[.int .i64 (k : Int), .slice A1 n1 c1, .slice A2 n2 c2, .string r, .int .i64 (wd : Int), .int .i64 (R.2 : Nat)])) ((((((w2.setCell ⟨b, 0, none⟩ (.int .i64 (k : Int))).setCell ⟨b, 1, none⟩ (.slice A1 n1 c1)).setCell ⟨b, 2, none⟩ (.slice A2 n2 c2)).setCell ⟨b, 3, none⟩ (.string r)).setCell ⟨b, 4, none⟩ (.int .i64 (wd : Int))).setCell ⟨b, 5, none⟩ (.int .i64 (R.2 : Nat))) :=
  ⟨k, _, _, r, wd, rfl, ext6 hx hb _ _ _ _ _ _, ⟨_, _, _, rfl⟩, ⟨_, _, _, rfl⟩, fun h => let ⟨h1, h2, h3, h4⟩ := hok h; ⟨h1, h2, h3, (h4.keep (keep6 _ _ _ _ _ _ _ _) hoff).base hm⟩⟩
theorem pre_two (s : ByteArray) (a b : UInt8) : hasPrefix s.data.toList [a, b] = decide ((s.extract 0 2).data.toList = [a, b]) := by
  rw [Bool.eq_iff_iff, decide_eq_true_iff, ext_BA, BA_data, List.drop_zero, Nat.sub_zero]
  unfold hasPrefix
  rw [List.isPrefixOf_iff_prefix, List.prefix_iff_eq_take]
  exact ⟨fun h => h.symm, fun h => h.symm⟩
theorem pre_short (s : ByteArray) (a b : UInt8) (h : s.size < 2) : hasPrefix s.data.toList [a, b] = false := by
  rw [Bool.eq_false_iff]
  intro e
  have := (List.isPrefixOf_iff_prefix.1 e).length_le
  simp at this
  omega
set_option maxRecDepth 100000 in
set_option maxHeartbeats 6400000 in
theorem rparse_any (s : ByteArray) (w : World) (hs : s.size ≤ 100000) :
    Calls Tryd.prog 23 #[.string s] w (RPost w (lineA s.data.toList)) := by
  have hsl : s.data.toList.length = s.size := by simp
  obtain ⟨R, hR⟩ : ∃ R, R = lineA s.data.toList := ⟨_, rfl⟩
  rw [← hR]
  have HR := Lib.hid hR
  obtain ⟨w0, hw0⟩ : ∃ W, W = w.alloc (.cells #[.int .i64 0, .slice none 0 0, .slice none 0 0, .string ⟨#[]⟩, .int .i64 0, .int .i64 0] 48) := ⟨_, rfl⟩
  have hx0 : Ext w w0 := by rw [hw0]; exact (Ext.refl w).alloc _
  have HB0 : Hid (Blk w0 w.heap.size 48 [.int .i64 0, .slice none 0 0, .slice none 0 0, .string ⟨#[]⟩, .int .i64 0, .int .i64 0]) := by rw [hw0]; exact heap_alloc_new w _
  have HW := Lib.hid (rwords_any s w0 hs)
  have HX0 := Lib.hid hx0
  have HSL := Lib.hid hsl
  clear hR hx0
  go_enter Tryd.func23, Tryd.ntmps23
  go_wp2_with fail
  rw [← hw0]
  obtain ⟨b, hb⟩ : ∃ b, b = w.heap.size := ⟨_, rfl⟩
  have hbw : w.heap.size ≤ b := Nat.le_of_eq hb.symm
  rw [← hb] at HB0 ⊢
  clear hw0 hb
  go_loopw [3] (fun i wr => wr = w0 ∧ ∃ k : Nat, k ≤ s.size ∧ i = .int .i64 k ∧ (s.data.toList.take k).all okD = true) (fun i _ => s.size - (intOf i).toNat)
  case atStart => exact ⟨rfl, 0, Nat.zero_le _, rfl, rfl⟩
  case round =>
    obtain ⟨rfl, k, hk, rfl, hall⟩ := hrel
    by_cases hks : k < s.size
    · have hkl : k < s.data.toList.length := by omega
      have hstep : (s.data.toList.take (k + 1)).all okD = okD s[k] := by
        rw [List.take_succ_eq_append_getElem hkl, List.all_append, hall]
        simp
        rfl
      have hbad : okD s[k] = false → R = (noB, 3) := fun h => by
        rw [HR.out]
        refine lineA_bad _ ?_
        rw [List.all_eq_false]
        exact ⟨s.data.toList[k], List.getElem_mem hkl, by rw [show s.data.toList[k] = s[k] from rfl, h]; decide⟩
      have hok : okD s[k] = (decide (32 ≤ s[k].toNat) && decide (s[k].toNat ≤ 126)) := rfl
      have HST := Lib.hid hstep
      have HBAD := Lib.hid hbad
      obtain ⟨c, hc⟩ : ∃ c, c = s[k] := ⟨_, rfl⟩
      rw [← hc] at HST HBAD hok
      have hcn : s[k].toNat = c.toNat := by rw [hc]
      clear hstep hbad hall hc
      obtain ⟨⟨p0, p1, p2, p3, p4, p5⟩, hfz, hlt⟩ := six HB0.out
      have y0 := hfz 0
      have y1 := hfz 1
      have y2 := hfz 2
      have y3 := hfz 3
      have y4 := hfz 4
      have y5 := hfz 5
      have HOK := Lib.hid hok
      clear hfz hok
      rcases (by omega : c.toNat < 32 ∨ (32 ≤ c.toNat ∧ c.toNat ≤ 126) ∨ 126 < c.toNat) with h1 | ⟨h1, h2⟩ | h1
      · have hd : decide ((s[k].toNat : Int) < 32) = true := decide_eq_true (by omega)
        have HN : Hid (okD c = false) := by show _ = _; rw [HOK.out, decide_eq_false (by omega)]; rfl
        have HE := Lib.hid (RPost.err (HBAD.out HN.out) (by decide) (ext6 HX0.out hbw (.int .i64 0) (.slice none 0 0) (.slice none 0 0) (.string ⟨#[]⟩) (.int .i64 0) (.int .i64 3)))
        clear h1 hcn
        go_wp2_with fail
        refine bodyPost_ret (v := .agg #[.int .i64 0, .slice none 0 0, .slice none 0 0, .string ⟨#[]⟩, .int .i64 0, .int .i64 3]) (by simp [results, Tryd.results23, go_sem, p0, p1, p2, p3, p4, p5]) rfl ?_
        exact HE.out
      · have hd : decide ((s[k].toNat : Int) < 32) = false := decide_eq_false (by omega)
        have hd2 : decide ((126 : Int) < (s[k].toNat : Int)) = false := decide_eq_false (by omega)
        have HN : Hid (okD c = true) := by show _ = _; rw [HOK.out, decide_eq_true h1, decide_eq_true h2]; rfl
        clear h1 h2 hcn
        go_wp2_with fail
        go_roundw
        case rel => exact ⟨trivial, k + 1, by omega, by go_num, by rw [HST.out, HN.out]⟩
        case measure => simp [intOf]; omega
      · have hd : decide ((s[k].toNat : Int) < 32) = false := decide_eq_false (by omega)
        have hd2 : decide ((126 : Int) < (s[k].toNat : Int)) = true := decide_eq_true (by omega)
        have HN : Hid (okD c = false) := by show _ = _; rw [HOK.out, decide_eq_false (show ¬ c.toNat ≤ 126 by omega)]; simp
        have HE := Lib.hid (RPost.err (HBAD.out HN.out) (by decide) (ext6 HX0.out hbw (.int .i64 0) (.slice none 0 0) (.slice none 0 0) (.string ⟨#[]⟩) (.int .i64 0) (.int .i64 3)))
        clear h1 hcn
        go_wp2_with fail
        refine bodyPost_ret (v := .agg #[.int .i64 0, .slice none 0 0, .slice none 0 0, .string ⟨#[]⟩, .int .i64 0, .int .i64 3]) (by simp [results, Tryd.results23, go_sem, p0, p1, p2, p3, p4, p5]) rfl ?_
        exact HE.out
    · obtain rfl : k = s.size := by omega
      rw [← hsl, List.take_length] at hall
      have hR2 := HR.out.trans (lineA_ok _ hall)
      have HR2 := Lib.hid hR2
      have hne : wordsA s.data.toList ≠ [] → 1 ≤ s.size := fun h => by
        rcases Nat.eq_zero_or_pos s.size with h0 | h0
        · exfalso
          have : s.data.toList = [] := List.eq_nil_of_length_eq_zero (by omega)
          rw [this] at h
          exact h rfl
        · exact h0
      have HNE := Lib.hid hne
      clear hR2 hall hk hks hne
      go_wp2_with fail
      refine HW.out.mono ?_
      rintro e w1 ⟨v, rfl, hown, hx1⟩
      obtain ⟨A1, c1, rfl, hl1⟩ := Lst.of_own hown
      have hrm := hl1.room
      have hmx := hl1.max
      unfold maxLen at hmx
      have HO := Lib.hid hown
      have HB1 := Lib.hid (HB0.out.ext hx1)
      have HX1 := Lib.hid (HX0.out.trans hx1)
      have HOFF := Lib.hid (line_off HB1.out)
      obtain ⟨⟨p0, p1, p2, p3, p4, p5⟩, hfz, hlt⟩ := six HB1.out
      have y0 := hfz 0
      have y1 := hfz 1
      have y2 := hfz 2
      have y3 := hfz 3
      have y4 := hfz 4
      have y5 := hfz 5
      clear hfz hown hl1 hx1 HB0
      obtain ⟨ws, hws⟩ : ∃ ws, ws = wordsA s.data.toList := ⟨_, rfl⟩
      rw [← hws] at HO HR2 HNE hrm ⊢
      clear hws
      by_cases c0 : ws = []
      · have h0 : ws.length = 0 := by rw [c0]; rfl
        have hR3 : R = (noB, 0) := HR2.out.trans (if_pos c0)
        have HE : Hid (RPost w R (.returned (.agg #[.int .i64 0, .slice none 0 0, .slice none 0 0, .string ⟨#[]⟩, .int .i64 0, .int .i64 0])) ((((((w1.setCell ⟨b, 0, none⟩ (.int .i64 0)).setCell ⟨b, 1, none⟩ (.slice none 0 0)).setCell ⟨b, 2, none⟩ (.slice none 0 0)).setCell ⟨b, 3, none⟩ (.string ⟨#[]⟩)).setCell ⟨b, 4, none⟩ (.int .i64 0)).setCell ⟨b, 5, none⟩ (.int .i64 0))) := by
          rw [hR3]
          exact RPost.store (k := 0) (wd := 0) (R := (noB, 0)) hbw HX1.out (Nat.le_refl _) HOFF.out (fun _ => ⟨rfl, rfl, rfl, RLine.zero _ _ _ (by decide) (by decide) (by decide)⟩)
        rw [h0]
        clear c0 h0 hR3 hrm
        go_wp2_with fail
        refine bodyPost_ret (v := .agg #[.int .i64 0, .slice none 0 0, .slice none 0 0, .string ⟨#[]⟩, .int .i64 0, .int .i64 0]) (by simp [results, Tryd.results23, go_sem, p0, p1, p2, p3, p4, p5]) rfl ?_
        exact HE.out
      have hR3 := HR2.out
      rw [if_neg c0] at hR3
      have hs1 := HNE.out c0
      have hwl : 1 ≤ ws.length := by
        cases ws with
        | nil => exact absurd rfl c0
        | cons a b => simp
      obtain ⟨n, hn⟩ : ∃ n, n = ws.length := ⟨_, rfl⟩
      rw [← hn] at HO hrm hwl ⊢
      have HN := Lib.hid hn
      have hnz : ((n : Int) == 0) = false := by simp; omega
      have hhd : s.data.toList.head? = some s[0] := by
        rw [List.head?_eq_getElem?, List.getElem?_eq_getElem (by omega)]
        rfl
      rw [hhd] at hR3
      by_cases c1' : s[0] = 124
      · rw [if_pos (by rw [c1'])] at hR3
        have hq : ((s[0].toNat : Int) == 124) = true := by rw [c1']; rfl
        have HR3 := Lib.hid hR3
        have HC := Lib.hid (rrow_any s w1 hs)
        have hm1 := Lib.hid HX1.out.size
        clear c0 hR3 hhd c1' hn
        go_wp2_with fail
        refine HC.out.mono ?_
        rintro e w2 ⟨k2, vw, vr, r2, wd2, rfl, hx2, ⟨A2, n2, c2, rfl⟩, ⟨A3, n3, c3, rfl⟩, hok⟩
        have hb2 := HB1.out.ext hx2
        obtain ⟨⟨q0, q1, q2, q3, q4, q5⟩, hfz, hlt2⟩ := six hb2
        have z0 := hfz 0
        have z1 := hfz 1
        have z2 := hfz 2
        have z3 := hfz 3
        have z4 := hfz 4
        have z5 := hfz 5
        have HE := Lib.hid (RPost.store hbw (HX1.out.trans hx2) hm1.out (line_off hb2) hok)
        rw [← HR3.out] at HE
        rw [← HR3.out]
        clear hb2 hfz hok p0 p1 p2 p3 p4 p5 y0 y1 y2 y3 y4 y5 hx2
        go_wp2_with fail
        refine bodyPost_ret (v := .agg #[.int .i64 (k2 : Int), .slice A2 n2 c2, .slice A3 n3 c3, .string r2, .int .i64 (wd2 : Int), .int .i64 (R.2 : Nat)]) (by simp [results, Tryd.results23, go_sem, q0, q1, q2, q3, q4, q5]) rfl ?_
        exact HE.out
      rw [if_neg (fun e => c1' (Option.some.inj e))] at hR3
      have hq : ((s[0].toNat : Int) == 124) = false := by
        rw [show (124 : Int) = ((124 : Nat) : Int) from rfl, byte_eq _ _ (by decide)]
        exact decide_eq_false c1'
      have hpar : RLine w1 wr.heap.size ⟨2, ws, [], [], 0⟩ (.slice A1 n c1) (.slice none 0 0) :=
        ⟨fun h => absurd (show (2 : Nat) = 1 from h) (by decide), fun _ => (by show World.ownsRow _ _ _ _ _ ws.length _; rw [← HN.out]; exact HO.out), fun h => absurd (show (2 : Nat) = 3 from h) (by decide), fun _ h => absurd rfl h, fun _ => rfl⟩
      have HPAR : Hid (R = (⟨2, ws, [], [], 0⟩, 0) → RPost w R (.returned (.agg #[.int .i64 2, .slice A1 n c1, .slice none 0 0, .string ⟨#[]⟩, .int .i64 0, .int .i64 0])) ((((((w1.setCell ⟨b, 0, none⟩ (.int .i64 2)).setCell ⟨b, 1, none⟩ (.slice A1 n c1)).setCell ⟨b, 2, none⟩ (.slice none 0 0)).setCell ⟨b, 3, none⟩ (.string ⟨#[]⟩)).setCell ⟨b, 4, none⟩ (.int .i64 0)).setCell ⟨b, 5, none⟩ (.int .i64 0))) := fun hq => by
        rw [hq]
        exact RPost.store (k := 2) (wd := 0) (r := ⟨#[]⟩) (R := (⟨2, ws, [], [], 0⟩, 0)) hbw HX1.out HX0.out.size HOFF.out (fun _ => ⟨rfl, rfl, rfl, hpar⟩)
      clear hhd c1' c0 hpar
      by_cases hz : s.size < 2
      · rw [pre_short s _ _ hz, if_neg (by decide), pre_short s _ _ hz, if_neg (by decide)] at hR3
        have HE := Lib.hid (HPAR.out hR3)
        have hd : decide ((2 : Int) ≤ (s.size : Int)) = false := decide_eq_false (by omega)
        clear hR3 hn
        go_wp2_with fail
        refine bodyPost_ret (v := .agg #[.int .i64 2, .slice A1 n c1, .slice none 0 0, .string ⟨#[]⟩, .int .i64 0, .int .i64 0]) (by simp [results, Tryd.results23, go_sem, p0, p1, p2, p3, p4, p5]) rfl ?_
        exact HE.out
      have hd : decide ((2 : Int) ≤ (s.size : Int)) = true := decide_eq_true (by omega)
      have hz2 : 2 ≤ s.size := by omega
      rw [pre_two, pre_two] at hR3
      have hcmp : ∀ a b : UInt8, ((s.extract 0 2).toList == [a, b]) = decide ((s.extract 0 2).data.toList = [a, b]) := fun a b => by
        rw [ByteArray.toList_eq, Bool.eq_iff_iff, beq_iff_eq, decide_eq_true_iff]
      by_cases c2 : (s.extract 0 2).data.toList = [35, 32]
      · rw [if_pos (decide_eq_true c2)] at hR3
        have hcm := (hcmp 35 32).trans (decide_eq_true c2)
        by_cases c3 : ws.length < 2
        · rw [if_pos c3] at hR3
          have hd2 : decide ((n : Int) < 2) = true := decide_eq_true (by rw [hn]; omega)
          have HE := Lib.hid (RPost.err hR3 (by decide) (ext6 HX1.out hbw (.int .i64 0) (.slice none 0 0) (.slice none 0 0) (.string ⟨#[]⟩) (.int .i64 0) (.int .i64 3)))
          clear hR3 c2 c3 hn hcmp
          go_wp2_with fail
          refine bodyPost_ret (v := .agg #[.int .i64 0, .slice none 0 0, .slice none 0 0, .string ⟨#[]⟩, .int .i64 0, .int .i64 3]) (by simp [results, Tryd.results23, go_sem, p0, p1, p2, p3, p4, p5]) rfl ?_
          exact HE.out
        · rw [if_neg c3] at hR3
          have hd2 : decide ((n : Int) < 2) = false := decide_eq_false (by rw [hn]; omega)
          have hn2 : 2 ≤ n := by omega
          obtain ⟨g, cap, e1, k1, k2, k3, k4, k5, ⟨cs, k6⟩, -⟩ := own_put HO.out (by omega)
          have e2 : A1 = some ⟨g, 0, none⟩ ∧ c1 = cap := by injection e1 with e1 e2 e3; exact ⟨e1, e3⟩
          obtain ⟨rfl, rfl⟩ := e2
          unfold maxLen at k2
          have hsl3 : SL w1 w1.heap.size (.slice (some ⟨g, 1, none⟩) (n - 1) (c1 - 1)) ws.tail := by
            have hl : ws.tail.length = n - 1 := by rw [List.length_tail, hn]
            rw [← hl]
            refine ⟨_, _, rfl, fun e => (by cases e), ⟨by rw [strsV_len], by omega, by unfold maxLen; omega, fun _ => ⟨g, 1, rfl, fun i hi => ?_⟩⟩, fun _ => trivial, fun p hp => by cases hp; exact ⟨heap_lt k6, _, _, k6⟩⟩
            rw [strsV_len] at hi
            have := k4 (1 + i) (.string (BA ws.tail[i])) (strsV_get _ _ _ (by rw [Nat.add_comm, ← List.getElem?_tail, List.getElem?_eq_getElem hi]))
            rw [this]
            simp only [strsV, List.getElem_map]
          have HE : Hid (RPost w R (.returned (.agg #[.int .i64 1, .slice (some ⟨g, 1, none⟩) (n - 1) (c1 - 1), .slice none 0 0, .string ⟨#[]⟩, .int .i64 0, .int .i64 0])) ((((((w1.setCell ⟨b, 0, none⟩ (.int .i64 1)).setCell ⟨b, 1, none⟩ (.slice (some ⟨g, 1, none⟩) (n - 1) (c1 - 1))).setCell ⟨b, 2, none⟩ (.slice none 0 0)).setCell ⟨b, 3, none⟩ (.string ⟨#[]⟩)).setCell ⟨b, 4, none⟩ (.int .i64 0)).setCell ⟨b, 5, none⟩ (.int .i64 0))) := by
            rw [hR3]
            exact RPost.store (k := 1) (wd := 0) (r := ⟨#[]⟩) (R := (⟨1, ws.tail, [], [], 0⟩, 0)) hbw HX1.out (Nat.le_refl _) HOFF.out (fun _ => ⟨rfl, rfl, rfl, ⟨fun _ => hsl3, fun h => absurd (show (1 : Nat) = 2 from h) (by decide), fun h => absurd (show (1 : Nat) = 3 from h) (by decide), fun h => absurd rfl h, fun _ => rfl⟩⟩)
          have hcc : ¬ c1 = 1 := by omega
          clear hR3 c2 c3 hn hsl3 k4 k5 k6 e1 hcmp HPAR
          go_wp2_with fail
          refine bodyPost_ret (v := .agg #[.int .i64 1, .slice (some ⟨g, 1, none⟩) (n - 1) (c1 - 1), .slice none 0 0, .string ⟨#[]⟩, .int .i64 0, .int .i64 0]) (by simp [results, Tryd.results23, go_sem, p0, p1, p2, p3, p4, p5]) rfl ?_
          exact HE.out
      rw [if_neg (by rw [decide_eq_false c2]; decide)] at hR3
      have hcm := (hcmp 35 32).trans (decide_eq_false c2)
      by_cases c4 : (s.extract 0 2).data.toList = [33, 32]
      · rw [if_pos (decide_eq_true c4)] at hR3
        have hcm2 := (hcmp 33 32).trans (decide_eq_true c4)
        have hx : (s.extract 2 s.size).data.toList = s.data.toList.drop 2 := by
          rw [ext_BA, BA_data, List.take_of_length_le (by rw [List.length_drop]; omega)]
        have HPI := Lib.hid (rpicture_any (s.extract 2 s.size) w1 (by rw [ByteArray.size_extract]; omega))
        rw [hx] at HPI
        have HR3 := Lib.hid hR3
        have hm1 := Lib.hid HX1.out.size
        clear hR3 c2 c4 hn hx hcmp HPAR
        go_wp2_with fail
        refine HPI.out.mono ?_
        rintro e w2 ⟨k2, vw, vr, r2, wd2, rfl, hx2, ⟨A2, n2, c2, rfl⟩, ⟨A3, n3, c3, rfl⟩, hok⟩
        have hb2 := HB1.out.ext hx2
        obtain ⟨⟨q0, q1, q2, q3, q4, q5⟩, hfz, hlt2⟩ := six hb2
        have z0 := hfz 0
        have z1 := hfz 1
        have z2 := hfz 2
        have z3 := hfz 3
        have z4 := hfz 4
        have z5 := hfz 5
        have HE := Lib.hid (RPost.store hbw (HX1.out.trans hx2) hm1.out (line_off hb2) hok)
        rw [← HR3.out] at HE
        rw [← HR3.out]
        clear hb2 hfz hok p0 p1 p2 p3 p4 p5 y0 y1 y2 y3 y4 y5 hx2
        go_wp2_with fail
        refine bodyPost_ret (v := .agg #[.int .i64 (k2 : Int), .slice A2 n2 c2, .slice A3 n3 c3, .string r2, .int .i64 (wd2 : Int), .int .i64 (R.2 : Nat)]) (by simp [results, Tryd.results23, go_sem, q0, q1, q2, q3, q4, q5]) rfl ?_
        exact HE.out
      · rw [if_neg (by rw [decide_eq_false c4]; decide)] at hR3
        have hcm2 := (hcmp 33 32).trans (decide_eq_false c4)
        have HE := Lib.hid (HPAR.out hR3)
        clear hR3 hn c2 c4 hcmp
        go_wp2_with fail
        refine bodyPost_ret (v := .agg #[.int .i64 2, .slice A1 n c1, .slice none 0 0, .string ⟨#[]⟩, .int .i64 0, .int .i64 0]) (by simp [results, Tryd.results23, go_sem, p0, p1, p2, p3, p4, p5]) rfl ?_
        exact HE.out
end Go.Proofs.YtapjhnlnfliljaaDoor
