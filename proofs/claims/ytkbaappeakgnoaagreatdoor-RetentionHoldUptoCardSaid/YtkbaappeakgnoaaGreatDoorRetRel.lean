/- The law RetentionRelease. -/
import Derived.Test.YtkbaappeakgnoaaGreatDoorRetApp5
import Derived.Test.YtkbaappeakgnoaaGreatDoorRetLaw
import Derived.Deep.QuietTactic
import Derived.BigQuiet
import Derived.Deep.AppendLies
namespace Go.Proofs.YtkbaappeakgnoaaGreatDoor
open Go.RowKit
open Go.Lib hiding intOf
open Dec
set_option linter.unusedVariables false
set_option linter.unusedSimpArgs false

theorem untilA_ge (p : ByteArray) : ∀ (l : List Hold) (u : Int), u ≤ untilA p l u
  | [], u => Int.le_refl u
  | h :: l, u => by
    have e : untilA p (h :: l) u = untilA p l (if notAt p h = true then u else max u h.2) := rfl
    rw [e]
    refine Int.le_trans ?_ (untilA_ge p l _)
    split <;> omega
/-- a row with a hold set in -/
theorem set_facts (p : ByteArray) (now U : Int) (l : List Hold) (j : Nat) (hU : now ≤ U) :
    ((((l.filter (inForce now)).filter (notAt p)).take j ++ [(p, U)] ++ ((l.filter (inForce now)).filter (notAt p)).drop j).filter (inForce now) = ((l.filter (inForce now)).filter (notAt p)).take j ++ [(p, U)] ++ ((l.filter (inForce now)).filter (notAt p)).drop j) ∧
    ((((l.filter (inForce now)).filter (notAt p)).take j ++ [(p, U)] ++ ((l.filter (inForce now)).filter (notAt p)).drop j).filter (notAt p) = (l.filter (inForce now)).filter (notAt p)) ∧
    (((l.filter (inForce now)).filter (notAt p)).filter (inForce now) = (l.filter (inForce now)).filter (notAt p)) ∧ (((l.filter (inForce now)).filter (notAt p)).filter (notAt p) = (l.filter (inForce now)).filter (notAt p)) := by
  have hin : ∀ h ∈ (l.filter (inForce now)).filter (notAt p), inForce now h = true ∧ notAt p h = true := fun h hh => ⟨(List.mem_filter.1 (List.mem_filter.1 hh).1).2, (List.mem_filter.1 hh).2⟩
  generalize (l.filter (inForce now)).filter (notAt p) = R at *
  have hself : notAt p (p, U) = false := by unfold notAt; simp
  refine ⟨?_, ?_, ?_, ?_⟩
  · rw [List.filter_eq_self]
    intro h hh
    rcases List.mem_append.1 hh with hh | hh
    · rcases List.mem_append.1 hh with hh | hh
      · exact (hin h (List.mem_of_mem_take hh)).1
      · rw [List.mem_singleton.1 hh]
        unfold inForce
        exact decide_eq_true hU
    · exact (hin h (List.mem_of_mem_drop hh)).1
  · rw [List.filter_append, List.filter_append, List.filter_cons, hself]
    rw [List.filter_eq_self.2 (fun h hh => (hin h (List.mem_of_mem_take hh)).2), List.filter_eq_self.2 (fun h hh => (hin h (List.mem_of_mem_drop hh)).2)]
    simp
  · exact List.filter_eq_self.2 (fun h hh => (hin h hh).1)
  · exact List.filter_eq_self.2 (fun h hh => (hin h hh).2)
set_option maxHeartbeats 6400000 in
set_option maxRecDepth 100000 in
theorem release_any (p q : ByteArray) (date till : Int) (A : Option Addr) (n cap : Nat) (l : List Hold) (w : World) (hl : HLst w A n cap l) (hz : ∀ h ∈ l, h.1.size ≤ maxLen) (hp : p.size < 4294967281) (hE : Env w) :
    Calls Tryz.prog 4 #[.agg #[.slice A n cap, .string p, .string q, .int .i64 date, .int .i64 till]] w fun e w' => e = .returned (.bool true) ∧ Ext w w' := by
  have hrm := hl.room
  have hmx := hl.max
  unfold maxLen at hmx
  have hlen := hl.len
  have HAW := Lib.hid (fun W (hW : Ext w W) => awake_any W (hE.ext hW))
  have HF := Lib.hid (fun B W (hW : Ext w W) (hps : Lst W B 1 1 ([p].map .string)) => fine_any A B n cap 1 1 l [p] W (hl.ext hW) hz hps (by intro q hq; simp at hq; subst hq; exact hp) (hE.ext hW))
  obtain ⟨w1, hw1⟩ : ∃ W, W = w.alloc (.cells #[.slice A n cap, .string p, .string q, .int .i64 date, .int .i64 till] 41) := ⟨_, rfl⟩
  have hx1 : Ext w w1 := by rw [hw1]; exact (Ext.refl w).alloc _
  have hb1 : w1.heap[w.heap.size]? = some (.cells #[.slice A n cap, .string p, .string q, .int .i64 date, .int .i64 till] 41 (0, 0)) := by rw [hw1]; exact heap_alloc_new w _
  have hlt : w.heap.size < w1.heap.size := by rw [hw1]; simp
  have c0 : w1.cell? ⟨w.heap.size, 0, none⟩ = some (.slice A n cap) := by simp [World.cell?, hb1]
  have c1 : w1.cell? ⟨w.heap.size, 1, none⟩ = some (.string p) := by simp [World.cell?, hb1]
  have c3 : w1.cell? ⟨w.heap.size, 3, none⟩ = some (.int .i64 date) := by simp [World.cell?, hb1]
  have c4 : w1.cell? ⟨w.heap.size, 4, none⟩ = some (.int .i64 till) := by simp [World.cell?, hb1]
  have HW1 := Lib.hid hw1
  have HX1 := Lib.hid hx1
  have HL := Lib.hid hl
  have HEE := Lib.hid hE
  have HLEN := Lib.hid hlen
  clear hb1 hw1 hx1 hl hE hz hlen
  by_cases h11 : 11 < n
  · have hd : decide ((11 : Int) < (n : Int)) = true := decide_eq_true (by omega)
    clear h11
    go_enter Tryz.func4, Tryz.ntmps4
    go_wp2_with (rw [← HW1.out])
    go_quiet (fail)
    go_wp2_with fail
    refine (HAW.out _ (HX1.out.drewN _)).mono ?_
    rintro e w2 ⟨rfl, hx2⟩
    go_wp2_with fail
    go_ret
    exact ⟨rfl, (HX1.out.drewN _).trans hx2⟩
  have hd : decide ((11 : Int) < (n : Int)) = false := decide_eq_false (by omega)
  have hn11 : n ≤ 11 := by omega
  clear h11
  go_enter Tryz.func4, Tryz.ntmps4
  go_wp2_with (rw [← HW1.out])
  go_quiet (fail)
  go_wp2_with fail
  refine (HF.out _ _ ((HX1.out.drewN _).alloc _) ⟨rfl, Nat.le_refl _, by decide, fun _ => ⟨_, _, rfl, fun i hi => ?_⟩⟩).mono ?_
  · obtain rfl : i = 0 := by simp at hi; exact hi
    exact World.cell?_alloc_at (w := w1.drewN _) #[.string p] 9 w1.heap.size 0 rfl
  rintro e w2 ⟨r, rfl, hr, hx2⟩
  have HX2 := Lib.hid (((HX1.out.drewN _).alloc _).trans hx2)
  clear hx2 c0 c1 c3 c4
  cases r
  · clear hr
    go_wp2_with fail
    refine (HAW.out _ HX2.out).mono ?_
    rintro e w3 ⟨rfl, hx3⟩
    go_wp2_with fail
    go_ret
    exact ⟨rfl, HX2.out.trans hx3⟩
  obtain ⟨h12, hg, _⟩ := hr rfl
  have hsh := short_of_good hg
  have HSH := Lib.hid hsh
  clear hr hg hsh
  by_cases t1 : till < date
  · have hd1 : decide (till < date) = true := decide_eq_true t1
    go_wp2_with fail
    refine (HAW.out _ HX2.out).mono ?_
    rintro e w3 ⟨rfl, hx3⟩
    go_wp2_with fail
    go_ret
    exact ⟨rfl, HX2.out.trans hx3⟩
  have hd1 : decide (till < date) = false := decide_eq_false t1
  by_cases t2 : date < 0
  · have hd2 : decide (date < 0) = true := decide_eq_true t2
    go_wp2_with fail
    refine (HAW.out _ HX2.out).mono ?_
    rintro e w3 ⟨rfl, hx3⟩
    go_wp2_with fail
    go_ret
    exact ⟨rfl, HX2.out.trans hx3⟩
  have hd2 : decide (date < 0) = false := decide_eq_false t2
  by_cases t3 : 1000000000 < till
  · have hd3 : decide ((1000000000 : Int) < till) = true := decide_eq_true t3
    go_wp2_with fail
    refine (HAW.out _ HX2.out).mono ?_
    rintro e w3 ⟨rfl, hx3⟩
    go_wp2_with fail
    go_ret
    exact ⟨rfl, HX2.out.trans hx3⟩
  have hd3 : decide ((1000000000 : Int) < till) = false := decide_eq_false t3
  obtain ⟨dn, rfl⟩ : ∃ dn : Nat, till = (dn : Int) := ⟨till.toNat, by omega⟩
  have hdn : dn ≤ 1000000000 := by omega
  have hdd : date ≤ (dn : Int) := by omega
  have HDE := Lib.hid (fun W => decimal_any dn W hdn)
  have HAP := Lib.hid (fun a2 a4 a5 a6 W (hW : Ext w W) => applyHold_any p dn a2 a4 a5 a6 date A n cap l W (HL.out.ext hW) (by omega) hdn hp HSH.out (HEE.out.ext hW))
  obtain ⟨D, hD⟩ : ∃ D, D = BY (decDigits dn) := ⟨_, rfl⟩
  rw [← hD] at HDE HAP
  have hun := untilA_ge p (l.filter (inForce date)) dn
  have hfacts := fun j => set_facts p date (untilA p (l.filter (inForce date)) dn) l j (Int.le_trans hdd hun)
  have hrl : ((l.filter (inForce date)).filter (notAt p)).length ≤ 11 := by
    have h1 := List.length_filter_le (inForce date) l
    have h2 := List.length_filter_le (notAt p) (l.filter (inForce date))
    have h3 := HLEN.out
    omega
  have hml : (l.filter (inForce date)).length ≤ 11 := by
    have h1 := List.length_filter_le (inForce date) l
    have h3 := HLEN.out
    omega
  have HACT := Lib.hid (fun W (hW : Ext w W) => active_hl date A n cap l W (HL.out.ext hW) (by omega))
  generalize untilA p (l.filter (inForce date)) dn = U at *
  obtain ⟨R, hR⟩ : ∃ R, R = (l.filter (inForce date)).filter (notAt p) := ⟨_, rfl⟩
  rw [← hR] at HAP hfacts hrl
  generalize l.filter (inForce date) = m at *
  have HR := Lib.hid hR
  have HFA := Lib.hid hfacts
  clear hD hun hfacts hR t1 t2 t3
  go_wp2_with fail
  refine (HDE.out _).mono ?_
  rintro e w3 ⟨rfl, hx3⟩
  have HX3 := Lib.hid (HX2.out.trans hx3)
  clear hx3
  go_wp2_with fail
  refine (HAP.out _ _ _ _ _ HX3.out).mono ?_
  rintro e w4 ⟨B1, c1, j, hj, rfl, hl4, hx4⟩
  have HX4 := Lib.hid (HX3.out.trans hx4)
  have HL4 := Lib.hid hl4
  have hlr4 := hl4.room
  have hlm4 := hl4.max
  unfold maxLen at hlm4
  clear hx4 hl4
  obtain ⟨w5, hw5⟩ : ∃ W, W = w4.alloc (.cells #[.int .i64 6, .string p, .slice none 0 0, .string ⟨#[]⟩, .int .i64 0, .string ⟨#[]⟩, .slice none 0 0] 32) := ⟨_, rfl⟩
  have hx5 : Ext w4 w5 := by rw [hw5]; exact (Ext.refl w4).alloc _
  have hb5 : w5.heap[w4.heap.size]? = some (.cells #[.int .i64 6, .string p, .slice none 0 0, .string ⟨#[]⟩, .int .i64 0, .string ⟨#[]⟩, .slice none 0 0] 32 (0, 0)) := by rw [hw5]; exact heap_alloc_new w4 _
  obtain ⟨b5, hb5e⟩ : ∃ x, x = w4.heap.size := ⟨_, rfl⟩
  rw [← hb5e] at hb5
  have HB5 := Lib.hid hb5e
  have HCE : Hid (∀ W, Ext w5 W → W.cell? ⟨b5, 0, none⟩ = some (.int .i64 6) ∧ W.cell? ⟨b5, 1, none⟩ = some (.string p) ∧ W.cell? ⟨b5, 2, none⟩ = some (.slice none 0 0) ∧ W.cell? ⟨b5, 3, none⟩ = some (.string ⟨#[]⟩) ∧ W.cell? ⟨b5, 4, none⟩ = some (.int .i64 0) ∧ W.cell? ⟨b5, 5, none⟩ = some (.string ⟨#[]⟩) ∧ W.cell? ⟨b5, 6, none⟩ = some (.slice none 0 0)) := fun W hW =>
    ⟨hW.cell (by simp [World.cell?, hb5]), hW.cell (by simp [World.cell?, hb5]), hW.cell (by simp [World.cell?, hb5]), hW.cell (by simp [World.cell?, hb5]), hW.cell (by simp [World.cell?, hb5]), hW.cell (by simp [World.cell?, hb5]), hW.cell (by simp [World.cell?, hb5])⟩
  have HW5 := Lib.hid hw5
  have HX5 := Lib.hid (HX4.out.trans hx5)
  have hj2 := HFA.out j
  obtain ⟨S, hS⟩ : ∃ S, S = R.take j ++ [(p, U)] ++ R.drop j := ⟨_, rfl⟩
  rw [← hS] at hj2 HL4
  have hSl : S.length = R.length + 1 := by
    rw [hS, List.length_append, List.length_append, List.length_take, List.length_drop]
    simp
    omega
  obtain ⟨f1, f2, f3, f4⟩ := hj2
  have HR1 : Hid (Calls Tryz.prog 10 #[.slice B1 (R.length + 1) c1, .agg #[.int .i64 6, .string p, .slice none 0 0, .string ⟨#[]⟩, .int .i64 0, .string ⟨#[]⟩, .slice none 0 0], .int .i64 date] w5 fun e w' => (∃ (B : Option Addr) (c : Nat), e = .returned (.tuple #[.slice B R.length c, .int .i64 0]) ∧ HLst w' B R.length c R) ∧ Ext w5 w') := by
    have h6 := applyRelease_any p (.slice none 0 0) (.string ⟨#[]⟩) (.int .i64 0) (.string ⟨#[]⟩) (.slice none 0 0) date B1 (R.length + 1) c1 S w5 (HL4.out.ext hx5) (by omega)
    rw [f1, f2] at h6
    refine h6.mono (fun e w' ⟨h, hx⟩ => ⟨?_, hx⟩)
    rw [if_neg (by omega)] at h
    exact h
  have HR2 : Hid (∀ (B : Option Addr) (c : Nat) (W : World), HLst W B R.length c R → Calls Tryz.prog 10 #[.slice B R.length c, .agg #[.int .i64 6, .string p, .slice none 0 0, .string ⟨#[]⟩, .int .i64 0, .string ⟨#[]⟩, .slice none 0 0], .int .i64 date] W fun e w' => e = .returned (.tuple #[.slice none 0 0, .int .i64 9]) ∧ Ext W w') := fun B c W hW => by
    have h6 := applyRelease_any p (.slice none 0 0) (.string ⟨#[]⟩) (.int .i64 0) (.string ⟨#[]⟩) (.slice none 0 0) date B R.length c R W hW (by omega)
    rw [f3, f4] at h6
    refine h6.mono (fun e w' ⟨h, hx⟩ => ⟨?_, hx⟩)
    rw [if_pos rfl] at h
    exact h
  clear hw5 hx5 hb5 hb5e hS hSl f1 f2 f3 f4 HFA
  obtain ⟨z0, z1, z2, z3, z4, z5, z6⟩ := HCE.out w5 (Ext.refl _)
  go_wp2_with (rw [← HW5.out, ← HB5.out])
  clear z0 z1 z2 z3 z4 z5 z6
  refine HR1.out.mono ?_
  rintro e w6 ⟨⟨B2, c2, rfl, hl6⟩, hx6⟩
  obtain ⟨z0, z1, z2, z3, z4, z5, z6⟩ := HCE.out w6 hx6
  have HX6 := Lib.hid (HX5.out.trans hx6)
  have HL6 := Lib.hid hl6
  have hlr6 := hl6.room
  have hlm6 := hl6.max
  unfold maxLen at hlm6
  clear hx6 hl6
  go_wp2_with fail
  refine (HR2.out B2 c2 w6 HL6.out).mono ?_
  rintro e w7 ⟨rfl, hx7⟩
  have HX7 := Lib.hid (HX6.out.trans hx7)
  have HL7 := Lib.hid (HL6.out.ext hx7)
  clear hx7 z0 z1 z2 z3 z4 z5 z6
  go_wp2_with fail
  refine (HACT.out w7 HX7.out).mono ?_
  rintro e w8 ⟨v, rfl, hx8, B3, c3, rfl, hl8⟩
  have HX8 := Lib.hid (HX7.out.trans hx8)
  have HL8 := Lib.hid (HL7.out.ext hx8)
  have HM := Lib.hid hl8
  have hlr8 := hl8.room
  have hlm8 := hl8.max
  unfold maxLen at hlm8
  obtain ⟨i0, hi, hz0, hz1, hz2⟩ := info_parts Tryz.infoHold
  clear hx8 hl8
  go_wp2_with fail
  go_loopw [14, 16, 94] (fun o _ i wr => ∃ k : Nat, k ≤ m.length ∧ i = .int .i64 k ∧ wr.ownsRow w8.heap.size 44 2 o ((m.take k).filter (notAt p)).length (holdCells ((m.take k).filter (notAt p))) ∧ Ext w8 wr) (fun _ _ i _ => m.length - (intOf i).toNat)
  case atStart => exact ⟨0, Nat.zero_le _, rfl, ⟨by simp [holdCells], Or.inl ⟨rfl, rfl⟩⟩, Ext.refl _⟩
  case round =>
    obtain ⟨k, hk, rfl, hown, hx⟩ := hrel
    by_cases hkm : k < m.length
    · obtain ⟨bb, off, hA, hc⟩ := HM.out.at_ (by omega)
      subst hA
      have hc1 := hx.cell (hc k hkm).1
      have hc2 := hx.cell (hc k hkm).2
      have hfilt : Hid ((m.take (k + 1)).filter (notAt p) = if notAt p m[k] then (m.take k).filter (notAt p) ++ [m[k]] else (m.take k).filter (notAt p)) := by
        show _ = _
        rw [List.take_succ_eq_append_getElem hkm, List.filter_append]
        by_cases hph : notAt p m[k] = true
        · rw [if_pos hph]; simp [hph]
        · rw [if_neg hph]; simp [hph]
      have hna : notAt p m[k] = !(m[k].1.toList == p.toList) := rfl
      have hol : ((m.take k).filter (notAt p)).length ≤ 11 := by
        have h1 := List.length_filter_le (notAt p) (m.take k)
        have h2 := List.length_take_le k m
        omega
      generalize m[k] = h at hc1 hc2 hfilt hna
      generalize (m.take k).filter (notAt p) = out at *
      obtain ⟨wA, hwA⟩ : ∃ W, W = wr.alloc (.cells #[.string h.1, .int .i64 h.2] 44) := ⟨_, rfl⟩
      have hxA : Ext wr wA := by rw [hwA]; exact (Ext.refl wr).alloc _
      have hA0 : wA.cell? ⟨wr.heap.size, 0, none⟩ = some (.string h.1) := by rw [hwA]; simp
      have hA1 : wA.cell? ⟨wr.heap.size, 1, none⟩ = some (.int .i64 h.2) := by rw [hwA]; simp
      have hsA : wr.heap.size < wA.heap.size := by rw [hwA]; simp
      obtain ⟨wB, hwB⟩ : ∃ W, W = wA.alloc (.cells #[.string h.1, .int .i64 h.2] 44) := ⟨_, rfl⟩
      have hxB : Ext wA wB := by rw [hwB]; exact (Ext.refl wA).alloc _
      have HNW : Hid (wB.heap[wA.heap.size]? = some (.cells #[.string h.1, .int .i64 h.2] 44 (0, 0))) := by rw [hwB]; exact heap_alloc_new wA _
      have HWA := Lib.hid hwA
      have HWB := Lib.hid hwB
      have HXA := Lib.hid (hx.trans hxA)
      have HXB := Lib.hid ((hx.trans hxA).trans hxB)
      have HOA := Lib.hid (own_ext hown hxA)
      have HOB := Lib.hid (own_ext hown (hxA.trans hxB))
      have HNA := Lib.hid hna
      have HBS : Hid (w8.heap.size ≤ wB.heap.size) := ((hx.trans hxA).trans hxB).size
      clear hna hc hwA hwB hxA hxB hown hx
      cases hq : (h.1.toList == p.toList) with
      | true =>
        have hq2 : (h.1.toList != p.toList) = false := by rw [bne, hq]; rfl
        have hf2 : Hid ((m.take (k + 1)).filter (notAt p) = out) := by show _ = _; rw [hfilt.out, HNA.out, hq]; rfl
        go_wp2_with (rw [← HWA.out])
        go_roundw
        case rel => exact ⟨k + 1, by omega, by go_num, by rw [hf2.out]; exact HOA.out, HXA.out⟩
        case measure => simp [intOf]; omega
      | false =>
        have hq2 : (h.1.toList != p.toList) = true := by rw [bne, hq]; rfl
        have hf2 : Hid ((m.take (k + 1)).filter (notAt p) = out ++ [h]) := by show _ = _; rw [hfilt.out, HNA.out, hq]; rfl
        go_wp2_with (first | rw [← HWA.out] | rw [← HWB.out] | (at_builtin; refine wpList_append_own _ rfl (.tmp 102) (.tmp 104) _ rfl w8.heap.size 44 i0 _ 2 24 Tryz.underlying22 hi hz0 hz1 hz2 rfl (by omega) _ _ _ rfl HOB.out ⟨wA.heap.size, 0, none⟩ 1 1 [.string h.1, .int .i64 h.2] rfl rfl ?c1 ?c2 ?c3 ?c4 ?c5 ?_))
        try (case c1 => exact World.news_of_block HNW.out)
        try (case c2 => intro u hu; simp at hu; rcases hu with rfl | rfl <;> rfl)
        try (case c3 => unfold maxLen; omega)
        try (case c4 => omega)
        try (case c5 => exact HBS.out)
        intro v' w9 hown2 hgr _
        have hx3 := HXB.out.grown hgr (fun k hk => (HOB.out.lt k hk).1)
        have HO2 := Lib.hid hown2
        clear hown2 hgr
        go_wp2_with fail
        go_roundw
        case rel =>
          refine ⟨k + 1, by omega, by go_num, ?_, hx3⟩
          rw [hf2.out, holdCells_snoc, List.length_append]
          exact HO2.out
        case measure => simp [intOf]; omega
    · obtain rfl : k = m.length := by omega
      rw [List.take_length, ← HR.out] at hown
      obtain ⟨B4, c4, rfl, hl9⟩ := HLst.of_own hown
      have hsm := rsame_any B2 B4 R.length R.length c2 c4 R R wr (HL8.out.ext hx) hl9
      rw [decide_eq_true rfl] at hsm
      have HSM := Lib.hid hsm
      have HX9 := Lib.hid (HX8.out.trans hx)
      clear hown hl9 hsm hx
      go_wp2_with fail
      refine HSM.out.mono ?_
      rintro e w9 ⟨rfl, hx9⟩
      have HX10 := Lib.hid (HX9.out.trans hx9)
      clear hx9
      go_wp2_with fail
      refine (HAW.out _ HX10.out).mono ?_
      rintro e w10 ⟨rfl, hx10⟩
      go_wp2_with fail
      go_ret
      exact ⟨rfl, HX10.out.trans hx10⟩
end Go.Proofs.YtkbaappeakgnoaaGreatDoor
