/- Comparisons by package slices: of texts, of rows. (Layer 49) -/
import Derived.Test.YtapjhnlnfliljaaDoorDocFmt2
namespace Go.Proofs.YtapjhnlnfliljaaDoor
open Go.RowKit
open Go.Lib hiding intOf
open Dec
set_option linter.unusedVariables false

theorem mapBA_inj : ∀ {a b : List Bytes}, a.map BA = b.map BA → a = b
  | [], [], _ => rfl
  | [], _ :: _, h => by cases h
  | _ :: _, [], h => by cases h
  | x :: a, y :: b, h => by
    rw [List.map_cons, List.map_cons, List.cons.injEq] at h
    rw [BA_inj h.1, mapBA_inj h.2]
theorem equalS_any (m1 m2 : Nat) (v1 v2 : Value) (a b : List Bytes) (w : World) (h1 : SL w m1 v1 a) (h2 : SL w m2 v2 b) :
    Calls Tryd.prog 49 #[v1, v2] w fun e w' => e = .returned (.bool (decide (a = b))) ∧ Ext w w' := by
  obtain ⟨A1, c1, rfl, -, hl1, -⟩ := h1
  obtain ⟨A2, c2, rfl, -, hl2, -⟩ := h2
  have r1 := hl1.room
  have r2 := hl2.room
  have x1 := hl1.max
  have x2 := hl2.max
  unfold maxLen at x1 x2
  by_cases hn : a.length = b.length
  rotate_left
  · have hr : decide (a = b) = false := decide_eq_false (fun e => hn (by rw [e]))
    rw [hr]
    exact (Tryd.slices_Equal_string_lens A1 A2 a.length c1 b.length c2 w hn).mono fun e w' ⟨he, hw⟩ => ⟨he, hw ▸ Ext.refl _⟩
  · by_cases h0 : a.length = 0
    · have ha : a = [] := List.eq_nil_of_length_eq_zero h0
      have hb : b = [] := List.eq_nil_of_length_eq_zero (by omega)
      subst ha hb
      exact (Tryd.slices_Equal_string_empty A1 A2 c1 0 c2 w (by omega)).mono fun e w' ⟨he, hw⟩ => ⟨he, hw ▸ Ext.refl _⟩
    · obtain ⟨g1, o1, rfl, q1⟩ := hl1.at_ (by omega)
      obtain ⟨g2, o2, rfl, q2⟩ := hl2.at_ (by omega)
      have key : ∀ (l : List Bytes) (g o : Nat), (∀ i (h : i < (strsV l).length), w.cell? ⟨g, o + i, none⟩ = some (strsV l)[i]) → ∀ j, j < (l.map BA).length → w.cell? ⟨g, o + j, none⟩ = some (.string ((l.map BA).getD j ByteArray.empty)) := by
        intro l g o h j hj
        rw [List.length_map] at hj
        rw [h j (by rw [strsV_len]; exact hj), List.getD_eq_getElem?_getD, List.getElem?_map, List.getElem?_eq_getElem hj]
        simp only [strsV, List.getElem_map, Option.map_some, Option.getD_some]
      have := Tryd.slices_Equal_string g1 o1 a.length c1 g2 o2 b.length c2 (a.map BA) (b.map BA) w (by simp) (by simp) (by omega) (by omega) (key a g1 o1 q1) (key b g2 o2 q2)
      rw [List.take_of_length_le (by simp), List.take_of_length_le (by simp)] at this
      refine this.mono fun e w' ⟨he, q, hw⟩ => ⟨?_, by rw [hw]; exact (Ext.refl w).drewN q⟩
      rw [he]
      have hd : decide (a.map BA = b.map BA) = decide (a = b) := by
        by_cases hab : a = b
        · rw [decide_eq_true hab, decide_eq_true (by rw [hab])]
        · rw [decide_eq_false hab, decide_eq_false (fun e => hab (mapBA_inj e))]
      rw [hd]
set_option maxRecDepth 100000 in
set_option maxHeartbeats 1600000 in
theorem rowsEq_any (m1 m2 : Nat) (v1 v2 : Value) (a b : List (List Bytes)) (w : World) (h1 : RL w m1 v1 a) (h2 : RL w m2 v2 b) :
    Calls Tryd.prog 50 #[v1, v2, .func (.func 49) #[] #[]] w fun e w' => e = .returned (.bool (decide (a = b))) ∧ Ext w w' := by
  obtain ⟨A1, c1, us1, rfl, -, hl1, hv1, -⟩ := h1
  obtain ⟨A2, c2, us2, rfl, -, hl2, hv2, -⟩ := h2
  have r1 := hl1.room
  have r2 := hl2.room
  have x1 := hl1.max
  have x2 := hl2.max
  unfold maxLen at x1 x2
  by_cases hn : a.length = b.length
  rotate_left
  · have hr : decide (a = b) = false := decide_eq_false (fun e => hn (by rw [e]))
    rw [hr]
    have hd : (((a.length : Nat) : Int) != ((b.length : Nat) : Int)) = true := by simp; omega
    clear hl1 hl2 hv1 hv2 hn hr
    generalize a.length = n1 at *
    generalize b.length = n2 at *
    go_enter Tryd.func50, Tryd.ntmps50
    go_wp2_with fail
    go_ret
    exact ⟨rfl, Ext.refl _⟩
  · obtain ⟨n, hnn⟩ : ∃ n, n = a.length := ⟨_, rfl⟩
    have hnb : n = b.length := by omega
    rw [← hnn] at hl1 r1 ⊢
    rw [← hnb] at hl2 r2 ⊢
    have HA := Lib.hid hnn
    have HB := Lib.hid hnb
    have HL1 := Lib.hid hl1
    have HL2 := Lib.hid hl2
    have HV1 := Lib.hid hv1
    have HV2 := Lib.hid hv2
    have hne : (((n : Nat) : Int) != ((n : Nat) : Int)) = false := by simp
    clear hl1 hl2 hn hnn hnb hv1 hv2
    go_enter Tryd.func50, Tryd.ntmps50
    go_wp2_with fail
    go_loopw [7, 8, 9, 17] (fun q7 q8 q9 i wr => ∃ k : Nat, k ≤ n ∧ i = .int .i64 k ∧ a.take k = b.take k ∧ Ext w wr) (fun _ _ _ i _ => n - (intOf i).toNat)
    case atStart => exact ⟨0, Nat.zero_le _, rfl, rfl, Ext.refl _⟩
    case round =>
      obtain ⟨k, hk, rfl, htk, hx⟩ := hrel
      have HT := Lib.hid htk
      clear htk
      by_cases hkn : k < n
      · have ka : k < a.length := by rw [← HA.out]; exact hkn
        have kb : k < b.length := by rw [← HB.out]; exact hkn
        obtain ⟨u1, e1, s1⟩ := HV1.out k a[k] (List.getElem?_eq_getElem ka)
        obtain ⟨u2, e2, s2⟩ := HV2.out k b[k] (List.getElem?_eq_getElem kb)
        obtain ⟨i1, e1⟩ := List.getElem?_eq_some_iff.1 e1
        obtain ⟨i2, e2⟩ := List.getElem?_eq_some_iff.1 e2
        obtain ⟨g1, o1, rfl, q1⟩ := HL1.out.at_ (by omega)
        obtain ⟨g2, o2, rfl, q2⟩ := HL2.out.at_ (by omega)
        have d1 := q1 k i1
        have d2 := q2 k i2
        rw [e1] at d1
        rw [e2] at d2
        have d1 := hx.cell d1
        have d2 := hx.cell d2
        have hstep : a[k] = b[k] → a.take (k + 1) = b.take (k + 1) := take_eq_step ka kb HT.out
        have hfail : a[k] ≠ b[k] → decide (a = b) = false := fun h => decide_eq_false (fun e => h (by simp only [e]))
        have hq := equalS_any _ _ u1 u2 a[k] b[k] wr (s1.ext hx) (s2.ext hx)
        obtain ⟨B1, d1c, hu1, -⟩ := id s1
        obtain ⟨B2, d2c, hu2, -⟩ := id s2
        generalize a[k] = x at *
        generalize b[k] = y at *
        subst hu1 hu2
        have HS := Lib.hid hstep
        have HF := Lib.hid hfail
        have HQ := Lib.hid hq
        clear q1 q2 hstep hfail hq e1 e2 s1 s2 i1 i2 ka kb
        go_wp2_with fail
        refine HQ.out.mono ?_
        rintro e w2 ⟨rfl, hx2⟩
        have hx3 := hx.trans hx2
        cases hd : decide (x = y) with
        | true =>
          have HE := Lib.hid (of_decide_eq_true hd)
          clear hd
          go_wp2_with fail
          go_roundw
          case rel => exact ⟨k + 1, by omega, by go_num, HS.out HE.out, hx3⟩
          case measure => simp [intOf]; omega
        | false =>
          have HE := Lib.hid (of_decide_eq_false hd)
          clear hd
          go_wp2_with fail
          go_ret
          exact ⟨by rw [HF.out HE.out]; rfl, hx3⟩
      · obtain rfl : k = n := by omega
        have hfin : decide (a = b) = true := by
          have := HT.out
          rw [List.take_of_length_le (by rw [← HA.out]; exact Nat.le_refl _), List.take_of_length_le (by rw [← HB.out]; exact Nat.le_refl _)] at this
          exact decide_eq_true this
        have HFIN := Lib.hid hfin
        clear hfin
        go_wp2_with fail
        go_ret
        exact ⟨by rw [HFIN.out]; rfl, hx⟩
end Go.Proofs.YtapjhnlnfliljaaDoor
