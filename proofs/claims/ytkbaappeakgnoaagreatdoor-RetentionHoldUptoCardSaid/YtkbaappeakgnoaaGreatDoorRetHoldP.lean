/- What the law RetentionHold needs: plain facts on holds; the entry that its closure makes. -/
import Derived.Test.YtkbaappeakgnoaaGreatDoorRetRel
import Derived.BigRegion
namespace Go.Proofs.YtkbaappeakgnoaaGreatDoor
open Go.RowKit
open Go.Lib hiding intOf
open Dec
set_option linter.unusedVariables false
set_option linter.unusedSimpArgs false

theorem chk_short {p : ByteArray} (h : chk p = 0) : p.size ≤ 200 := by
  unfold chk at h
  split at h
  · omega
  · omega
theorem under_self {p : ByteArray} (h : chk p = 0) : under p p = true := by
  unfold under
  rw [h, List.take_length]
  simp
theorem untilA_mem (p : ByteArray) (h : Hold) (hn : notAt p h = false) : ∀ (l : List Hold) (u : Int), h ∈ l → h.2 ≤ untilA p l u
  | [], u, hm => by cases hm
  | x :: l, u, hm => by
    have e : untilA p (x :: l) u = untilA p l (if notAt p x = true then u else max u x.2) := rfl
    rw [e]
    rcases List.mem_cons.1 hm with rfl | hm
    · refine Int.le_trans ?_ (untilA_ge p l _)
      rw [if_neg (by rw [hn]; decide)]
      omega
    · exact untilA_mem p h hn l _ hm
/-- a hold set in: what was covered still is -/
theorem set_held (p q : ByteArray) (now U : Int) (l : List Hold) (j : Nat) (hU : now ≤ U) (h : heldB l q now = true) :
    heldB (((l.filter (inForce now)).filter (notAt p)).take j ++ [(p, U)] ++ ((l.filter (inForce now)).filter (notAt p)).drop j) q now = true := by
  unfold heldB at h ⊢
  rw [List.any_eq_true] at h ⊢
  obtain ⟨x, hx, hq⟩ := h
  rw [Bool.and_eq_true] at hq
  cases hn : notAt p x with
  | true =>
    refine ⟨x, ?_, by rw [hq.1, hq.2]; rfl⟩
    have hm : x ∈ (l.filter (inForce now)).filter (notAt p) := List.mem_filter.2 ⟨List.mem_filter.2 ⟨hx, hq.1⟩, hn⟩
    rw [← List.take_append_drop j ((l.filter (inForce now)).filter (notAt p))] at hm
    rcases List.mem_append.1 hm with hm | hm
    · exact List.mem_append_left _ (List.mem_append_left _ hm)
    · exact List.mem_append_right _ hm
  | false =>
    have he : x.1 = p := by
      unfold notAt at hn
      have h1 : (x.1.toList == p.toList) = true := by simpa using hn
      rw [beq_iff_eq, ByteArray.toList_eq, ByteArray.toList_eq] at h1
      exact bytes_inj h1
    refine ⟨(p, U), List.mem_append_left _ (List.mem_append_right _ (List.mem_singleton.2 rfl)), ?_⟩
    rw [Bool.and_eq_true]
    refine ⟨decide_eq_true hU, ?_⟩
    rw [← he]
    exact hq.2
theorem set_own (p : ByteArray) (U d : Int) (R : List Hold) (j : Nat) (hd : d ≤ U) (hc : chk p = 0) : heldB (R.take j ++ [(p, U)] ++ R.drop j) p d = true := by
  unfold heldB
  rw [List.any_eq_true]
  refine ⟨(p, U), List.mem_append_left _ (List.mem_append_right _ (List.mem_singleton.2 rfl)), ?_⟩
  rw [Bool.and_eq_true]
  exact ⟨decide_eq_true hd, under_self hc⟩
/-- what the law asks -/
theorem hold_plain (p q : ByteArray) (now till sec : Nat) (l : List Hold) (j j2 : Nat) (hnt : now ≤ till) (hc : chk p = 0) (R S S2 : List Hold) (U U2 : Int)
    (hR : R = (l.filter (inForce now)).filter (notAt p)) (hU : U = untilA p (l.filter (inForce now)) till) (hS : S = R.take j ++ [(p, U)] ++ R.drop j) (hj : j ≤ R.length)
    (hU2 : U2 = untilA p S sec) (hS2 : S2 = R.take j2 ++ [(p, U2)] ++ R.drop j2) :
    S.filter (inForce now) = S ∧ S.filter (notAt p) = R ∧ (heldB l q now = true → heldB S q now = true ∧ heldB S2 q now = true) ∧ heldB S p till = true ∧ heldB S2 p (max (till : Int) sec) = true := by
  have h1 : (till : Int) ≤ U := by rw [hU]; exact untilA_ge _ _ _
  have h2 : (now : Int) ≤ U := by omega
  obtain ⟨f1, f2, -, -⟩ := set_facts p now U l j h2
  rw [← hR, ← hS] at f1 f2
  have hm : (p, U) ∈ S := by rw [hS]; exact List.mem_append_left _ (List.mem_append_right _ (List.mem_singleton.2 rfl))
  have h3 : U ≤ U2 := by
    rw [hU2]
    exact untilA_mem p (p, U) (by unfold notAt; simp) S sec hm
  have h4 : (sec : Int) ≤ U2 := by rw [hU2]; exact untilA_ge _ _ _
  refine ⟨f1, f2, fun h => ?_, ?_, ?_⟩
  · have g1 : heldB S q now = true := by
      rw [hS, hR]
      exact set_held p q now U l j h2 h
    refine ⟨g1, ?_⟩
    have := set_held p q now U2 S j2 (by omega) g1
    rw [f1, f2, ← hS2] at this
    exact this
  · rw [hS]
    exact set_own p U till R j h1 hc
  · rw [hS2]
    exact set_own p U2 _ R j2 (by omega) hc
theorem short_set {p : ByteArray} {U : Int} {l R : List Hold} {now : Int} (hs : Short l) (hR : R = (l.filter (inForce now)).filter (notAt p)) (hc : chk p = 0) (j : Nat) : Short (R.take j ++ [(p, U)] ++ R.drop j) := by
  have hr : ∀ h ∈ R, h.1.size ≤ 200 := fun h hh => by
    rw [hR] at hh
    exact hs h (List.mem_filter.1 (List.mem_filter.1 hh).1).1
  intro h hh
  rcases List.mem_append.1 hh with hh | hh
  · rcases List.mem_append.1 hh with hh | hh
    · exact hr h (List.mem_of_mem_take hh)
    · rw [List.mem_singleton.1 hh]
      exact chk_short hc
  · exact hr h (List.mem_of_mem_drop hh)
set_option maxHeartbeats 3200000 in
set_option maxRecDepth 100000 in
theorem entryH_any (p : ByteArray) (b dn : Nat) (w : World) (hd : w.cell? ⟨b, 0, none⟩ = some (.string p)) (hdn : dn ≤ 1000000000) :
    Calls Tryz.prog 8 #[.int .i64 dn, .pointer (some ⟨b, 0, none⟩)] w fun e w' => e = .returned (.agg #[.int .i64 5, .string p, .slice none 0 0, .string (BY (decDigits dn)), .int .i64 0, .string ⟨#[]⟩, .slice none 0 0]) ∧ Ext w w' := by
  obtain ⟨w1, hw1⟩ : ∃ W, W = w.alloc (.cells #[.int .i64 0, .string ⟨#[]⟩, .slice none 0 0, .string ⟨#[]⟩, .int .i64 0, .string ⟨#[]⟩, .slice none 0 0] 32) := ⟨_, rfl⟩
  have hx1 : Ext w w1 := by rw [hw1]; exact (Ext.refl w).alloc _
  have hb1 : w1.heap[w.heap.size]? = some (.cells #[.int .i64 0, .string ⟨#[]⟩, .slice none 0 0, .string ⟨#[]⟩, .int .i64 0, .string ⟨#[]⟩, .slice none 0 0] 32 (0, 0)) := by rw [hw1]; exact heap_alloc_new w _
  obtain ⟨g, hg⟩ : ∃ g, g = w.heap.size := ⟨_, rfl⟩
  rw [← hg] at hb1
  have hgw : w.heap.size ≤ g := Nat.le_of_eq hg.symm
  have c1 := hx1.cell hd
  have HCE : Hid (∀ W, Ext w1 W → (W.cell? ⟨g, 0, none⟩ = some (.int .i64 0) ∧ W.cell? ⟨g, 1, none⟩ = some (.string ⟨#[]⟩) ∧ W.cell? ⟨g, 2, none⟩ = some (.slice none 0 0) ∧ W.cell? ⟨g, 3, none⟩ = some (.string ⟨#[]⟩) ∧ W.cell? ⟨g, 4, none⟩ = some (.int .i64 0) ∧ W.cell? ⟨g, 5, none⟩ = some (.string ⟨#[]⟩) ∧ W.cell? ⟨g, 6, none⟩ = some (.slice none 0 0)) ∧ (∀ i, W.frozen? ⟨g, i, none⟩ = false)) := fun W hW =>
    ⟨⟨hW.cell (by simp [World.cell?, hb1]), hW.cell (by simp [World.cell?, hb1]), hW.cell (by simp [World.cell?, hb1]), hW.cell (by simp [World.cell?, hb1]), hW.cell (by simp [World.cell?, hb1]), hW.cell (by simp [World.cell?, hb1]), hW.cell (by simp [World.cell?, hb1])⟩, fun i => by
      have hlt : g < w1.heap.size := by
        rcases Nat.lt_or_ge g w1.heap.size with h | h
        · exact h
        · rw [Array.getElem?_eq_none h] at hb1; cases hb1
      exact Lib.frozen_of_heap (by rw [hW.block g hlt]; exact hb1) i⟩
  have HDE := Lib.hid (fun W => decimal_any dn W hdn)
  obtain ⟨D, hD⟩ : ∃ D, D = BY (decDigits dn) := ⟨_, rfl⟩
  rw [← hD] at HDE ⊢
  have HW1 := Lib.hid hw1
  have HG := Lib.hid hg
  have HX1 := Lib.hid hx1
  clear hw1 hg hx1 hb1 hd hD
  go_enter Tryz.func8, Tryz.ntmps8
  go_wp2_with (rw [← HW1.out, ← HG.out])
  go_region_with (go_at_call 9; refine (HDE.out _).mono ?_; rintro e w2 ⟨rfl, hx2⟩; have hxw := HX1.out.drew.trans hx2; obtain ⟨⟨z0, z1, z2, z3, z4, z5, z6⟩, hfz⟩ := HCE.out w2 ((Ext.refl w1).drew.trans hx2); have y0 := hfz 0; have y1 := hfz 1; have y2 := hfz 2; have y3 := hfz 3; have y4 := hfz 4; have y5 := hfz 5; have y6 := hfz 6; have c2 := hx2.cell (show w1.drew.cell? _ = _ from c1); clear hfz hx2)
  all_goals (
    go_wp2_with fail
    refine bodyPost_ret (v := .agg #[.int .i64 5, .string p, .slice none 0 0, .string D, .int .i64 0, .string ⟨#[]⟩, .slice none 0 0]) (by simp [results, Tryz.results8, go_sem, z0, z1, z2, z3, z4, z5, z6]) rfl ⟨rfl, ?_⟩
    exact ((((((hxw.set (p := ⟨g, 0, none⟩) hgw _).set (p := ⟨g, 1, none⟩) hgw _).set (p := ⟨g, 2, none⟩) hgw _).set (p := ⟨g, 3, none⟩) hgw _).set (p := ⟨g, 4, none⟩) hgw _).set (p := ⟨g, 5, none⟩) hgw _).set (p := ⟨g, 6, none⟩) hgw _)
end Go.Proofs.YtkbaappeakgnoaaGreatDoor
