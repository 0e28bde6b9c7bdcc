/- The reference's picture. (Layer 49) -/
import Derived.Test.YtapjhnlnfliljaaDoorDocRef3
namespace Go.Proofs.YtapjhnlnfliljaaDoor
open Go.RowKit
open Go.Lib hiding intOf
open Dec
set_option linter.unusedVariables false
set_option linter.unusedSimpArgs false

theorem cutB_all (l : Bytes) (a b : Nat) (h : l.length ≤ b) : cutB l a b = l.drop a := by
  unfold cutB
  rw [List.take_of_length_le]
  rw [List.length_drop]; omega
theorem rpic_facts (s : ByteArray) (k : Nat) (hk : k ≤ s.size) (h4 : k ≤ 4) (hd : ∀ c ∈ s.data.toList.take k, dgB c = true) (hstop : k = s.size ∨ k = 4 ∨ ∀ h : k < s.size, dgB s[k] = false) :
    (k = 0 → picA s.data.toList = (noB, 3)) ∧ (∀ h : 0 < s.size, s[0] = 48 → picA s.data.toList = (noB, 3)) ∧ (200 < valD (s.data.toList.take k) → picA s.data.toList = (noB, 3)) ∧ (s.size ≤ k + 1 → picA s.data.toList = (noB, 3)) ∧ (∀ h : k < s.size, s[k] ≠ 32 → picA s.data.toList = (noB, 3)) ∧
    (1 ≤ k → (∀ h : 0 < s.size, s[0] ≠ 48) → valD (s.data.toList.take k) ≤ 200 → k + 1 < s.size → (∀ h : k < s.size, s[k] = 32) → picA s.data.toList = if (cutB s.data.toList (k + 1) s.size).contains 32 = true then (noB, 3) else (⟨4, [], [], cutB s.data.toList (k + 1) s.size, valD (s.data.toList.take k)⟩, 0)) := by
  have hsl : s.data.toList.length = s.size := by simp
  have hget : ∀ (j : Nat) (h : j < s.size), s.data.toList[j]? = some s[j] := fun j h => by
    rw [List.getElem?_eq_getElem (by omega)]; rfl
  have hr := picA_ref s.data.toList k (by omega) h4 hd (by
    rcases hstop with h | h | h
    · exact .inl (by omega)
    · exact .inr (.inl h)
    · refine .inr (.inr fun c hc => ?_)
      by_cases hks : k < s.size
      · rw [hget k hks] at hc
        rw [← Option.some.inj hc]
        exact h hks
      · rw [List.getElem?_eq_none (by omega)] at hc
        cases hc)
  rw [hsl] at hr
  obtain ⟨h1, h2⟩ := hr
  refine ⟨fun h => h1 (.inl h), fun h0 h => h1 (.inr (.inl (by rw [hget 0 h0, h]))), fun h => h1 (.inr (.inr (.inl h))), fun h => h1 (.inr (.inr (.inr (.inl h)))), fun hks h => h1 (.inr (.inr (.inr (.inr (by rw [hget k hks]; exact fun e => h (Option.some.inj e)))))), fun g1 g2 g3 g4 g5 => ?_⟩
  rw [cutB_all _ _ _ (by omega)]
  exact h2 g1 (by rw [hget 0 (by omega)]; exact fun e => g2 (by omega) (Option.some.inj e)) g3 g4 (by rw [hget k (by omega), g5 (by omega)])
theorem valD_small (l : Bytes) (k : Nat) (h4 : k ≤ 4) (hd : ∀ c ∈ l.take k, dgB c = true) : valD (l.take k) ≤ 9999 := by
  have h1 := valD_lt (l.take k) hd
  have h2 : (l.take k).length ≤ 4 := by rw [List.length_take]; omega
  have h3 : 10 ^ (l.take k).length ≤ 10 ^ 4 := Nat.pow_le_pow_right (by decide) h2
  have h5 : (10 : Nat) ^ 4 = 10000 := by decide
  omega
set_option maxRecDepth 100000 in
set_option maxHeartbeats 6400000 in
theorem rpicture_any (s : ByteArray) (w : World) (hs : s.size ≤ 100000) :
    Calls Tryd.prog 41 #[.string s] w (RPost w (picA s.data.toList)) := by
  have hsl : s.data.toList.length = s.size := by simp
  obtain ⟨w0, hw0⟩ : ∃ W, W = w.alloc (.cells #[.int .i64 0, .slice none 0 0, .slice none 0 0, .string ⟨#[]⟩, .int .i64 0, .int .i64 0] 48) := ⟨_, rfl⟩
  have hx0 : Ext w w0 := by rw [hw0]; exact (Ext.refl w).alloc _
  have hb0 : Blk w0 w.heap.size 48 [.int .i64 0, .slice none 0 0, .slice none 0 0, .string ⟨#[]⟩, .int .i64 0, .int .i64 0] := by rw [hw0]; exact heap_alloc_new w _
  obtain ⟨b, hb⟩ : ∃ b, b = w.heap.size := ⟨_, rfl⟩
  have hbw : w.heap.size ≤ b := Nat.le_of_eq hb.symm
  rw [← hb] at hb0
  obtain ⟨⟨p0, p1, p2, p3, p4, p5⟩, hfz, hlt⟩ := six hb0
  have y0 := hfz 0
  have y1 := hfz 1
  have y2 := hfz 2
  have y3 := hfz 3
  have y4 := hfz 4
  have y5 := hfz 5
  clear hb0 hfz
  have hfacts := rpic_facts s
  have hvs := valD_small s.data.toList
  obtain ⟨R, hR⟩ : ∃ R, R = picA s.data.toList := ⟨_, rfl⟩
  rw [← hR] at hfacts ⊢
  have HF := Lib.hid hfacts
  have HVS := Lib.hid hvs
  have HSL := Lib.hid hsl
  have HERR : Hid (R = (noB, 3) → RPost w R (.returned (.agg #[.int .i64 0, .slice none 0 0, .slice none 0 0, .string ⟨#[]⟩, .int .i64 0, .int .i64 3])) ((((((w0.setCell ⟨b, 0, none⟩ (.int .i64 0)).setCell ⟨b, 1, none⟩ (.slice none 0 0)).setCell ⟨b, 2, none⟩ (.slice none 0 0)).setCell ⟨b, 3, none⟩ (.string ⟨#[]⟩)).setCell ⟨b, 4, none⟩ (.int .i64 0)).setCell ⟨b, 5, none⟩ (.int .i64 3))) := fun hq => RPost.err hq (by decide) (ext6 hx0 hbw _ _ _ _ _ _)
  have HGOOD : Hid (∀ (V : Nat) (X : Bytes), R = (⟨4, [], [], X, V⟩, 0) → RPost w R (.returned (.agg #[.int .i64 4, .slice none 0 0, .slice none 0 0, .string (BA X), .int .i64 (V : Int), .int .i64 0])) ((((((w0.setCell ⟨b, 0, none⟩ (.int .i64 4)).setCell ⟨b, 1, none⟩ (.slice none 0 0)).setCell ⟨b, 2, none⟩ (.slice none 0 0)).setCell ⟨b, 3, none⟩ (.string (BA X))).setCell ⟨b, 4, none⟩ (.int .i64 (V : Int))).setCell ⟨b, 5, none⟩ (.int .i64 0))) := fun V X hq =>
    ⟨4, _, _, _, V, by rw [hq]; rfl, ext6 hx0 hbw _ _ _ _ _ _, ⟨_, _, _, rfl⟩, ⟨_, _, _, rfl⟩, fun _ => by rw [hq]; exact ⟨rfl, rfl, rfl, RLine.zero _ _ _ (show (4 : Nat) ≠ 1 by decide) (show (4 : Nat) ≠ 2 by decide) (show (4 : Nat) ≠ 3 by decide)⟩⟩
  clear hR hfacts hvs hsl hx0
  go_enter Tryd.func41, Tryd.ntmps41
  go_wp2_with fail
  rw [← hw0, ← hb]
  clear hw0 hb
  go_loopw [3, 4] (fun n i wr => wr = w0 ∧ ∃ k : Nat, k ≤ s.size ∧ k ≤ 4 ∧ i = .int .i64 k ∧ n = .int .i64 ((valD (s.data.toList.take k) : Nat) : Int) ∧ ∀ c ∈ s.data.toList.take k, dgB c = true) (fun _ i _ => s.size - (intOf i).toNat)
  case atStart => exact ⟨rfl, 0, Nat.zero_le _, by omega, rfl, rfl, fun c hc => by cases hc⟩
  case round =>
    obtain ⟨rfl, k, hk, hk4, rfl, rfl, hall⟩ := hrel
    have hv := HVS.out k hk4 hall
    have hcase : (∃ h : k < s.size, (48 ≤ s[k].toNat ∧ s[k].toNat ≤ 57) ∧ k < 4) ∨ (k = s.size ∨ k = 4 ∨ ∀ h : k < s.size, dgB s[k] = false) := by
      by_cases h1 : k < s.size
      · by_cases h2 : dgB s[k] = true
        · by_cases h3 : k < 4
          · exact .inl ⟨h1, (dgB_iff _).1 h2, h3⟩
          · exact .inr (.inr (.inl (by omega)))
        · exact .inr (.inr (.inr fun _ => by simpa using h2))
      · exact .inr (.inl (by omega))
    rcases hcase with ⟨hks, ⟨g1, g2⟩, g3⟩ | hstop
    · have hkl : k < s.data.toList.length := by rw [HSL.out]; exact hks
      have htk : s.data.toList.take (k + 1) = s.data.toList.take k ++ [s[k]] := List.take_succ_eq_append_getElem hkl
      have hnv : valD (s.data.toList.take (k + 1)) = 10 * valD (s.data.toList.take k) + (s[k].toNat - 48) := by rw [htk, valD_snoc]
      have hna : ∀ c ∈ s.data.toList.take (k + 1), dgB c = true := by
        intro c hc
        rw [htk] at hc
        rcases List.mem_append.1 hc with hc | hc
        · exact hall c hc
        · rw [List.mem_singleton.1 hc]
          exact (dgB_iff _).2 ⟨g1, g2⟩
      have HNV := Lib.hid hnv
      have HNA := Lib.hid hna
      have hd1 : decide ((k : Int) < (s.size : Int)) = true := decide_eq_true (by omega)
      have hd2 : decide ((48 : Int) ≤ (s[k].toNat : Int)) = true := decide_eq_true (by omega)
      have hd3 : decide ((s[k].toNat : Int) ≤ 57) = true := decide_eq_true (by omega)
      have hd4 : decide ((k : Int) < 4) = true := decide_eq_true (by omega)
      clear hnv hna htk hall
      generalize valD (s.data.toList.take k) = V at *
      go_wp2_with fail
      go_roundw
      case rel => exact ⟨trivial, k + 1, by omega, by omega, by go_num, by rw [HNV.out]; go_num, HNA.out⟩
      case measure => (simp [intOf] <;> omega)
    · obtain ⟨f1, f2, f3, f4, f5, f6⟩ := HF.out k hk hk4 hall hstop
      have hv1 : Hid (valD (s.data.toList.take k) = valD (s.data.toList.take k)) := rfl
      generalize valD (s.data.toList.take k) = V at *
      have F1 := Lib.hid f1
      have F2 := Lib.hid f2
      have F3 := Lib.hid f3
      have F4 := Lib.hid f4
      have F5 := Lib.hid f5
      have F6 := Lib.hid f6
      have hsplit : (s.size ≤ k ∧ decide ((k : Int) < (s.size : Int)) = false) ∨ (∃ h : k < s.size, decide ((k : Int) < (s.size : Int)) = true ∧ decide ((48 : Int) ≤ (s[k].toNat : Int)) = false) ∨ (∃ h : k < s.size, decide ((k : Int) < (s.size : Int)) = true ∧ decide ((48 : Int) ≤ (s[k].toNat : Int)) = true ∧ decide ((s[k].toNat : Int) ≤ 57) = false) ∨ (∃ h : k < s.size, decide ((k : Int) < (s.size : Int)) = true ∧ decide ((48 : Int) ≤ (s[k].toNat : Int)) = true ∧ decide ((s[k].toNat : Int) ≤ 57) = true ∧ decide ((k : Int) < 4) = false) := by
        by_cases h1 : k < s.size
        · right
          by_cases h2 : 48 ≤ s[k].toNat
          · right
            by_cases h3 : s[k].toNat ≤ 57
            · right
              refine ⟨h1, decide_eq_true (by omega), decide_eq_true (by omega), decide_eq_true (by omega), decide_eq_false ?_⟩
              rcases hstop with h | h | h
              · omega
              · omega
              · have := h h1
                rw [(dgB_iff _).2 ⟨h2, h3⟩] at this
                cases this
            · exact .inl ⟨h1, decide_eq_true (by omega), decide_eq_true (by omega), decide_eq_false (by omega)⟩
          · exact .inl ⟨h1, decide_eq_true (by omega), decide_eq_false (by omega)⟩
        · exact .inl ⟨by omega, decide_eq_false (by omega)⟩
      clear f1 f2 f3 f4 f5 f6 hstop hall hv1
      -- the test behind the loop
      by_cases c1 : k = 0
      · have HE := Lib.hid (HERR.out (F1.out c1))
        have e1 : (((k : Nat) : Int) == 0) = true := by rw [c1]; rfl
        clear c1 F1 F2 F3 F4 F5 F6
        rcases hsplit with ⟨hks, d1⟩ | ⟨hks, d1, d2⟩ | ⟨hks, d1, d2, d3⟩ | ⟨hks, d1, d2, d3, d4⟩
        all_goals (
          go_wp2_with fail
          refine bodyPost_ret (v := .agg #[.int .i64 0, .slice none 0 0, .slice none 0 0, .string ⟨#[]⟩, .int .i64 0, .int .i64 3]) (by simp [results, Tryd.results41, go_sem, p0, p1, p2, p3, p4, p5]) rfl ?_
          exact HE.out)
      have e1 : (((k : Nat) : Int) == 0) = false := by simp; omega
      have hs1 : 0 < s.size := by omega
      by_cases c2 : s[0] = 48
      · have HE := Lib.hid (HERR.out (F2.out hs1 c2))
        have e2 : (((s[0].toNat : Nat) : Int) == 48) = true := by rw [c2]; rfl
        clear c1 c2 F1 F2 F3 F4 F5 F6
        rcases hsplit with ⟨hks, d1⟩ | ⟨hks, d1, d2⟩ | ⟨hks, d1, d2, d3⟩ | ⟨hks, d1, d2, d3, d4⟩
        all_goals (
          go_wp2_with fail
          refine bodyPost_ret (v := .agg #[.int .i64 0, .slice none 0 0, .slice none 0 0, .string ⟨#[]⟩, .int .i64 0, .int .i64 3]) (by simp [results, Tryd.results41, go_sem, p0, p1, p2, p3, p4, p5]) rfl ?_
          exact HE.out)
      have e2 : (((s[0].toNat : Nat) : Int) == 48) = false := by
        rw [show (48 : Int) = ((48 : Nat) : Int) from rfl, byte_eq _ _ (by decide)]
        exact decide_eq_false c2
      by_cases c3 : 200 < V
      · have HE := Lib.hid (HERR.out (F3.out c3))
        have e3 : decide ((200 : Int) < (V : Int)) = true := decide_eq_true (by omega)
        clear c1 c2 F1 F2 F3 F4 F5 F6
        rcases hsplit with ⟨hks, d1⟩ | ⟨hks, d1, d2⟩ | ⟨hks, d1, d2, d3⟩ | ⟨hks, d1, d2, d3, d4⟩
        all_goals (
          go_wp2_with fail
          refine bodyPost_ret (v := .agg #[.int .i64 0, .slice none 0 0, .slice none 0 0, .string ⟨#[]⟩, .int .i64 0, .int .i64 3]) (by simp [results, Tryd.results41, go_sem, p0, p1, p2, p3, p4, p5]) rfl ?_
          exact HE.out)
      have e3 : decide ((200 : Int) < (V : Int)) = false := decide_eq_false (by omega)
      by_cases c4 : s.size ≤ k + 1
      · have HE := Lib.hid (HERR.out (F4.out c4))
        have e4 : decide ((s.size : Int) ≤ (k : Int) + 1) = true := decide_eq_true (by omega)
        clear c1 c2 F1 F2 F3 F4 F5 F6
        rcases hsplit with ⟨hks, d1⟩ | ⟨hks, d1, d2⟩ | ⟨hks, d1, d2, d3⟩ | ⟨hks, d1, d2, d3, d4⟩
        all_goals (
          go_wp2_with fail
          refine bodyPost_ret (v := .agg #[.int .i64 0, .slice none 0 0, .slice none 0 0, .string ⟨#[]⟩, .int .i64 0, .int .i64 3]) (by simp [results, Tryd.results41, go_sem, p0, p1, p2, p3, p4, p5]) rfl ?_
          exact HE.out)
      have e4 : decide ((s.size : Int) ≤ (k : Int) + 1) = false := decide_eq_false (by omega)
      have hks0 : k < s.size := by omega
      by_cases c5 : s[k] = 32
      rotate_left
      · have HE := Lib.hid (HERR.out (F5.out hks0 c5))
        have e5 : (((s[k].toNat : Nat) : Int) != 32) = true := by
          rw [bne, show (32 : Int) = ((32 : Nat) : Int) from rfl, byte_eq _ _ (by decide), decide_eq_false (show ¬ s[k] = UInt8.ofNat 32 from c5)]
          rfl
        clear c1 c2 c5 F1 F2 F3 F4 F5 F6
        rcases hsplit with ⟨hks, -⟩ | ⟨hks, d1, d2⟩ | ⟨hks, d1, d2, d3⟩ | ⟨hks, d1, d2, d3, d4⟩
        · exact absurd hks0 (by omega)
        all_goals (
          go_wp2_with fail
          refine bodyPost_ret (v := .agg #[.int .i64 0, .slice none 0 0, .slice none 0 0, .string ⟨#[]⟩, .int .i64 0, .int .i64 3]) (by simp [results, Tryd.results41, go_sem, p0, p1, p2, p3, p4, p5]) rfl ?_
          exact HE.out)
      have e5 : (((s[k].toNat : Nat) : Int) != 32) = false := by rw [c5]; rfl
      have hRR := F6.out (by omega) (fun _ => c2) (by omega) (by omega) (fun _ => c5)
      have d1 : decide ((k : Int) < (s.size : Int)) = true := decide_eq_true (by omega)
      have d2 : decide ((48 : Int) ≤ (s[k].toNat : Int)) = false := decide_eq_false (by rw [c5]; decide)
      have HRR := Lib.hid hRR
      have hc0 : Hid ((cutB s.data.toList (k + 1) (k + 1)).contains 32 = false) := by show _ = _; rw [cutB_self]; rfl
      clear c1 c2 c5 F1 F2 F3 F4 F5 F6 hsplit hRR
      go_wp2_with fail
      go_loopw [5] (fun i wv => wv = wr ∧ ∃ j : Nat, k + 1 ≤ j ∧ j ≤ s.size ∧ i = .int .i64 j ∧ (cutB s.data.toList (k + 1) j).contains 32 = false) (fun i _ => s.size - (intOf i).toNat)
      case atStart => exact ⟨rfl, k + 1, Nat.le_refl _, by omega, by go_num, hc0.out⟩
      case round =>
        obtain ⟨rfl, j, hj1, hj, rfl, hno⟩ := hrel
        by_cases hjs : j < s.size
        · have hjl : j < s.data.toList.length := by rw [HSL.out]; exact hjs
          have hd1 : decide ((j : Int) < (s.size : Int)) = true := decide_eq_true (by omega)
          by_cases h32 : s[j] = 32
          · have hcon : (cutB s.data.toList (k + 1) s.size).contains 32 = true := by
              rw [cutB_all _ _ _ (by rw [HSL.out]; exact Nat.le_refl _), List.contains_iff_mem]
              have : (s.data.toList.drop (k + 1))[j - (k + 1)]? = some s[j] := by
                rw [List.getElem?_drop, show k + 1 + (j - (k + 1)) = j by omega, List.getElem?_eq_getElem hjl]
                rfl
              rw [h32] at this
              exact List.mem_of_getElem? this
            have hq := HRR.out
            rw [if_pos hcon] at hq
            have HE := Lib.hid (HERR.out hq)
            have h2 : (((s[j].toNat : Nat) : Int) == 32) = true := by rw [h32]; rfl
            clear hcon hq h32 hno d1 d2 e1 e2 e3 e4 e5
            go_wp2_with fail
            refine bodyPost_ret (v := .agg #[.int .i64 0, .slice none 0 0, .slice none 0 0, .string ⟨#[]⟩, .int .i64 0, .int .i64 3]) (by simp [results, Tryd.results41, go_sem, p0, p1, p2, p3, p4, p5]) rfl ?_
            exact HE.out
          · have h2 : (((s[j].toNat : Nat) : Int) == 32) = false := by
              rw [show (32 : Int) = ((32 : Nat) : Int) from rfl, byte_eq _ _ (by decide)]
              exact decide_eq_false h32
            have hn : Hid ((cutB s.data.toList (k + 1) (j + 1)).contains 32 = false) := by
              show _ = _
              rw [cutB_snoc _ _ _ hj1 hjl, Bool.eq_false_iff, ne_eq, List.contains_iff_mem, List.mem_append]
              rintro (h | h)
              · rw [← List.contains_iff_mem, hno] at h
                cases h
              · exact h32 (List.mem_singleton.1 h).symm
            clear hno h32 d1 d2 e1 e2 e3 e4 e5
            go_wp2_with fail
            go_roundw
            case rel => exact ⟨trivial, j + 1, by omega, by omega, by go_num, hn.out⟩
            case measure => (simp [intOf] <;> omega)
        · obtain rfl : j = s.size := by omega
          have hq := HRR.out
          rw [if_neg (by rw [hno]; decide)] at hq
          have HE := Lib.hid (HGOOD.out V _ hq)
          rw [← ext_cutB] at HE
          clear hq hno d1 d2 e1 e2 e3 e4 e5
          go_wp2_with fail
          refine bodyPost_ret (v := .agg #[.int .i64 4, .slice none 0 0, .slice none 0 0, .string (s.extract (k + 1) s.size), .int .i64 (V : Int), .int .i64 0]) (by simp [results, Tryd.results41, go_sem, p0, p1, p2, p3, p4, p5]) rfl ?_
          exact HE.out
end Go.Proofs.YtapjhnlnfliljaaDoor
